/- The document's side: is a pair among some; the place of a key. Conditions: none but lengths. -/
import Derived.Test.YtpgncjfmaeiaaaaDoorIsRefP
import Derived.Test.YtpgncjfmaeiaaaaDoorIsTo
set_option linter.unusedVariables false
namespace Go.Proofs.YtpgncjfmaeiaaaaDoor.Is
open Go.RowKit
/-- a row of pairs -/
def PrRow (w : World) (A : Option Addr) (l : PrL) : Prop := ∀ i, i < l.length → ∃ b off, A = some ⟨b, off, none⟩ ∧ b < w.heap.size ∧ w.cell? ⟨b, off + i * 2, none⟩ = some (.int .i64 (l.getD i (0, 0)).1) ∧ w.cell? ⟨b, off + i * 2 + 1, none⟩ = some (.int .i64 (l.getD i (0, 0)).2)
theorem PrRow.below {w w' : World} {A : Option Addr} {l : PrL} (h : PrRow w A l) (hb : Below w.heap.size w w') : PrRow w' A l := fun i hi => by
  obtain ⟨b, off, h1, h2, h3, h4⟩ := h i hi
  exact ⟨b, off, h1, Nat.lt_of_lt_of_le h2 hb.size, (hb.cell (p := ⟨b, _, none⟩) h2).trans h3, (hb.cell (p := ⟨b, _, none⟩) h2).trans h4⟩
theorem mem_take_succ {l : PrL} {i : Nat} (h : i < l.length) (x : Int × Int) : x ∈ l.take (i + 1) ↔ x ∈ l.take i ∨ x = l.getD i (0, 0) := by
  rw [List.take_succ_eq_append_getElem h, List.mem_append, List.mem_singleton, List.getD_eq_getElem?_getD, List.getElem?_eq_getElem h]
  rfl
set_option maxRecDepth 100000 in
set_option maxHeartbeats 3200000 in
theorem has_any (A : Option Addr) (c : Nat) (l : PrL) (x : Int × Int) (w : World) (G : PrRow w A l) (hl : l.length ≤ 20000000) :
    Calls Tryd.prog 34 #[.slice A l.length c, pairV x] w (BoolPost (decide (x ∈ l)) w) := by
  obtain ⟨xa, xb⟩ := x
  obtain ⟨n, hn⟩ : ∃ n, n = l.length := ⟨_, rfl⟩
  have HN := Lib.hid hn
  have HG := Lib.hid G
  obtain ⟨R, hR⟩ : ∃ R, R = decide ((xa, xb) ∈ l) := ⟨_, rfl⟩
  rw [← hR, ← hn]
  have HR := Lib.hid hR
  rw [← hn] at hl
  have hv : Hid (Below w.heap.size w (w.alloc (.cells #[.int .i64 xa, .int .i64 xb] 75))) := ext_world w _
  have z0 := bcell (heap_new w #[.int .i64 xa, .int .i64 xb] 75) 0
  have z1 := bcell (heap_new w #[.int .i64 xa, .int .i64 xb] 75) 1
  unfold pairV
  clear G hn hR
  go_enter Tryd.func34, Tryd.ntmps34
  go_wp2_with fail
  go_loopw [5] (fun v wr => ∃ i : Nat, i ≤ n ∧ v = .int .i64 (i : Nat) ∧ Hid ((xa, xb) ∉ l.take i) ∧ Hid (Below w.heap.size w wr) ∧ wr.cell? ⟨w.heap.size, 0, none⟩ = some (.int .i64 xa) ∧ wr.cell? ⟨w.heap.size, 1, none⟩ = some (.int .i64 xb)) (fun v _ => n - (intOf v).toNat)
  case atStart => exact ⟨0, Nat.zero_le _, rfl, (by simp : (xa, xb) ∉ l.take 0), hv.out, z0, z1⟩
  case round =>
    clear z0 z1 hv
    obtain ⟨i, hi, rfl, hni, hv, z0, z1⟩ := hrel
    by_cases hlt : i < n
    · have hltI : (i : Int) < (n : Int) := by omega
      obtain ⟨b, off, hA, hbl, c0, c1⟩ := (HG.out.below hv.out) i (by rw [← HN.out]; exact hlt)
      have HS := Lib.hid (mem_take_succ (l := l) (i := i) (by rw [← HN.out]; exact hlt) (xa, xb))
      have HM : Hid (l.getD i (0, 0) ∈ l) := by
        show _ ∈ _
        rw [List.getD_eq_getElem?_getD, List.getElem?_eq_getElem (by rw [← HN.out]; exact hlt)]
        exact List.getElem_mem _
      generalize l.getD i (0, 0) = y at c0 c1 HS HM
      obtain ⟨ya, yb⟩ := y
      simp only at c0 c1
      subst hA
      by_cases e1 : ya = xa
      · by_cases e2 : yb = xb
        · subst e1 e2
          have HT : Hid (R = true) := by show _ = _; rw [HR.out]; exact decide_eq_true HM.out
          go_wp2_with fail
          refine wp_region_still_lit (by kernel_rfl) (by kernel_rfl) ?_
          change wpStill _ _ wr.drew _ _ _
          iterate 6 still_step
          refine wpStill_nil ?_
          change Exit.then _ _ _ _ wr.drew
          replace z0 : wr.drew.cell? ⟨w.heap.size, 0, none⟩ = some (.int .i64 ya) := z0
          replace z1 : wr.drew.cell? ⟨w.heap.size, 1, none⟩ = some (.int .i64 yb) := z1
          replace hv := Lib.hid hv.out.drew
          generalize wr.drew = w5 at z0 z1 hv ⊢
          go_wp2_with fail
          go_ret
          exact ⟨by rw [HT.out]; rfl, hv.out⟩
        · have hne : ¬ (ya = xa ∧ yb = xb) := fun h => e2 h.2
          clear HM
          go_wp2_with fail
          refine wp_region_still_lit (by kernel_rfl) (by kernel_rfl) ?_
          change wpStill _ _ wr.drew _ _ _
          iterate 6 still_step
          refine wpStill_nil ?_
          change Exit.then _ _ _ _ wr.drew
          replace z0 : wr.drew.cell? ⟨w.heap.size, 0, none⟩ = some (.int .i64 xa) := z0
          replace z1 : wr.drew.cell? ⟨w.heap.size, 1, none⟩ = some (.int .i64 xb) := z1
          replace hv := Lib.hid hv.out.drew
          generalize wr.drew = w5 at z0 z1 hv ⊢
          go_wp2_with fail
          have HNI : Hid ((xa, xb) ∉ l.take (i + 1)) := fun h => by
            rcases HS.out.1 h with h | h
            · exact hni.out h
            · injection h with h1 h2
              exact hne ⟨h1.symm, h2.symm⟩
          go_roundw
          case rel => exact ⟨i + 1, by omega, by go_num, HNI.out, hv.out, z0, z1⟩
          case measure => simp [intOf]; omega
      · have hne : ¬ (ya = xa ∧ yb = xb) := fun h => e1 h.1
        clear HM
        go_wp2_with fail
        refine wp_region_still_lit (by kernel_rfl) (by kernel_rfl) ?_
        change wpStill _ _ wr.drew _ _ _
        iterate 6 still_step
        refine wpStill_nil ?_
        change Exit.then _ _ _ _ wr.drew
        replace z0 : wr.drew.cell? ⟨w.heap.size, 0, none⟩ = some (.int .i64 xa) := z0
        replace z1 : wr.drew.cell? ⟨w.heap.size, 1, none⟩ = some (.int .i64 xb) := z1
        replace hv := Lib.hid hv.out.drew
        generalize wr.drew = w5 at z0 z1 hv ⊢
        go_wp2_with fail
        have HNI : Hid ((xa, xb) ∉ l.take (i + 1)) := fun h => by
          rcases HS.out.1 h with h | h
          · exact hni.out h
          · injection h with h1 h2
            exact hne ⟨h1.symm, h2.symm⟩
        go_roundw
        case rel => exact ⟨i + 1, by omega, by go_num, HNI.out, hv.out, z0, z1⟩
        case measure => simp [intOf]; omega
    · obtain rfl : i = n := by omega
      have HT : Hid (R = false) := by
        have h9 := hni.out
        rw [HN.out, List.take_length] at h9
        show _ = _
        rw [HR.out]
        exact decide_eq_false h9
      go_wp2_with fail
      go_ret
      exact ⟨by rw [HT.out]; rfl, hv.out⟩
theorem keyIx_shift {ns : List Nd} {kids : List Int} {x : Int × ByteArray} : ∀ n i, keyIx ns kids x (n + 1) i = if keyAt ns (kids.getD (2 * i) 0) = x then some i else keyIx ns kids x n (i + 1) := fun n i => rfl
def keyR (ns : List Nd) (kids : List Int) (x : Int × ByteArray) : Int := match keyIx ns kids x (kids.length / 2) 0 with | some j => 2 * (j : Int) | none => -1
def KeyPost (r : Int) (w : World) (e : Ending) (w' : World) : Prop := e = .returned (.int .i64 r) ∧ Below w.heap.size w w'
set_option maxRecDepth 100000 in
set_option maxHeartbeats 6400000 in
theorem key_any (g : Gv) (X : Nd) (kind : Int) (txt : ByteArray) (w : World) (G : GrIn w g) (K : KidsAt w X) (hl : X.kids.length ≤ 1000000) (hr : ∀ k ∈ X.kids, 0 ≤ k ∧ k < g.ns.length) :
    Calls Tryd.prog 33 #[g.val, X.val, .int .i64 kind, .string txt] w (KeyPost (keyR g.ns X.kids (kind, txt)) w) := by
  have HG := Lib.hid G
  have HKX := Lib.hid K
  have HRX := Lib.hid hr
  obtain ⟨KL, hKL⟩ : ∃ KL, KL = X.kids.length := ⟨_, rfl⟩
  have HKL := Lib.hid hKL
  obtain ⟨R, hR⟩ : ∃ R, R = keyR g.ns X.kids (kind, txt) := ⟨_, rfl⟩
  rw [← hR]
  unfold keyR at hR
  rw [← hKL] at hR hl
  have HR := Lib.hid hR
  unfold Gv.val Nd.val
  rw [← hKL]
  have hs1 : (w.alloc (.cells #[.slice g.A g.ns.length g.c, .int .i64 g.root] 24)).heap.size = w.heap.size + 1 := by simp
  have h9 := heap_new (w.alloc (.cells #[.slice g.A g.ns.length g.c, .int .i64 g.root] 24)) #[.int .i64 X.kind, .string X.txt, .slice X.ka KL X.kc] 38
  rw [hs1] at h9
  have n2 := bcell h9 2
  have a0 : ((w.alloc (.cells #[.slice g.A g.ns.length g.c, .int .i64 g.root] 24)).alloc (.cells #[.int .i64 X.kind, .string X.txt, .slice X.ka KL X.kc] 38)).cell? ⟨w.heap.size, 0, none⟩ = some (.slice g.A g.ns.length g.c) := (Below.cell (ext_world _ _) (p := ⟨w.heap.size, 0, none⟩) (by simp)).trans (bcell (heap_new w _ _) 0)
  have hv : Hid (Below w.heap.size w ((w.alloc (.cells #[.slice g.A g.ns.length g.c, .int .i64 g.root] 24)).alloc (.cells #[.int .i64 X.kind, .string X.txt, .slice X.ka KL X.kc] 38))) := (ext_world w _).alloc (by simp) _
  clear G K hr hKL hR hs1 h9
  go_enter Tryd.func33, Tryd.ntmps33
  go_wp2_with fail
  go_loopw [9] (fun v wr => ∃ j : Nat, j ≤ KL / 2 ∧ v = .int .i64 ((2 * j : Nat) : Int) ∧ Hid (keyIx g.ns X.kids (kind, txt) (KL / 2) 0 = keyIx g.ns X.kids (kind, txt) (KL / 2 - j) j) ∧ Hid (Below w.heap.size w wr) ∧ wr.cell? ⟨w.heap.size, 0, none⟩ = some (.slice g.A g.ns.length g.c) ∧ wr.cell? ⟨w.heap.size + 1, 2, none⟩ = some (.slice X.ka KL X.kc)) (fun v _ => KL - (intOf v).toNat)
  case atStart => exact ⟨0, Nat.zero_le _, rfl, rfl, hv.out, a0, n2⟩
  case round =>
    clear a0 n2 hv
    obtain ⟨j, hj, rfl, hix, hv, a0, n2⟩ := hrel
    by_cases hlt : 2 * j + 1 < KL
    · have hltI : (2 * (j : Int) + 1) < (KL : Int) := by omega
      have hltI2 : (2 * (j : Int)) < (KL : Int) := by omega
      have ht1 : (2 * (j : Int)).toNat = 2 * j := by omega
      have ht3 : IntKind.i64.wrap (2 * (j : Int) + 1) = 2 * (j : Int) + 1 := IntWalk.i64_in _ ⟨by omega, by omega⟩
      have ht5 : (0 : Int) ≤ 2 * (j : Int) := by omega
      obtain ⟨bk, ok, hka, hbk, hkc⟩ := (HKX.out.below hv.out).get (2 * j) (by rw [← HKL.out]; omega)
      have hkr := HRX.out (X.kids.getD (2 * j) 0) (getD_mem (by rw [← HKL.out]; omega))
      have HST : Hid (keyIx g.ns X.kids (kind, txt) (KL / 2) 0 = if keyAt g.ns (X.kids.getD (2 * j) 0) = (kind, txt) then some j else keyIx g.ns X.kids (kind, txt) (KL / 2 - (j + 1)) (j + 1)) := by
        show _ = _
        rw [hix.out, show KL / 2 - j = (KL / 2 - (j + 1)) + 1 by omega, keyIx_shift]
      generalize X.kids.getD (2 * j) 0 = xa at hkc hkr HST
      obtain ⟨xn, rfl⟩ : ∃ xn : Nat, xa = (xn : Int) := ⟨xa.toNat, by omega⟩
      have hxn : xn < g.ns.length := by omega
      have hxI : (xn : Int) < (g.ns.length : Int) := by omega
      obtain ⟨bg, og, hAg, hbg, hg0, hg1, hg2⟩ := (HG.out.below hv.out).get xn hxn
      have HKA : Hid (keyAt g.ns (xn : Int) = ((g.ns.getD xn nd0).kind, (g.ns.getD xn nd0).txt)) := rfl
      rw [HKA.out] at HST
      generalize g.ns.getD xn nd0 = nd at hg0 hg1 hg2 HST
      obtain ⟨nk, nt, nkids, nka, nkc⟩ := nd
      simp only at hg0 hg1 hg2
      generalize nkids.length = nkl at hg2
      clear HKA
      have HAG := Lib.hid hAg
      have HKAX := Lib.hid hka
      rw [hAg] at a0
      rw [hka] at n2
      clear hAg hka
      go_wp2_with fail
      go_region_held3 (fun w' => w'.cell? ⟨w.heap.size, 0, none⟩ = some (.slice (some ⟨bg, og, none⟩) g.ns.length g.c) ∧ w'.cell? ⟨w.heap.size + 1, 2, none⟩ = some (.slice (some ⟨bk, ok, none⟩) KL X.kc) ∧ w'.cell? ⟨bk, ok + 2 * j, none⟩ = some (.int .i64 (xn : Int)) ∧ w'.cell? ⟨bg, og + xn * 3, none⟩ = some (.int .i64 nk) ∧ w'.cell? ⟨bg, og + xn * 3 + 1, none⟩ = some (.string nt) ∧ w'.cell? ⟨bg, og + xn * 3 + 2, none⟩ = some (.slice nka nkl nkc))
        (go_keep)
        (fail)
      have B5 : Hid (Below wr.heap.size wr (wr.alloc (.cells #[.int .i64 nk, .string nt, .slice nka nkl nkc] 38)).drew) := dr (ext_world wr _) 1
      have z0 : (wr.alloc (.cells #[.int .i64 nk, .string nt, .slice nka nkl nkc] 38)).drew.cell? ⟨wr.heap.size, 0, none⟩ = some (.int .i64 nk) := bcell (heap_new wr _ _) 0
      have z1 : (wr.alloc (.cells #[.int .i64 nk, .string nt, .slice nka nkl nkc] 38)).drew.cell? ⟨wr.heap.size, 1, none⟩ = some (.string nt) := bcell (heap_new wr _ _) 1
      generalize (wr.alloc (.cells #[.int .i64 nk, .string nt, .slice nka nkl nkc] 38)).drew = w5 at B5 z0 z1 ⊢
      have V5 : Hid (Below w.heap.size w w5) := hv.out.trans (B5.out.mono hv.out.size)
      have b0 : w5.cell? ⟨w.heap.size, 0, none⟩ = some (.slice g.A g.ns.length g.c) := by rw [HAG.out]; exact (B5.out.cell (p := ⟨w.heap.size, 0, none⟩) (block_lt_of_cell a0)).trans a0
      have m2 : w5.cell? ⟨w.heap.size + 1, 2, none⟩ = some (.slice X.ka KL X.kc) := by rw [HKAX.out]; exact (B5.out.cell (p := ⟨w.heap.size + 1, 2, none⟩) (block_lt_of_cell n2)).trans n2
      generalize wr.heap.size = kb at z0 z1 ⊢
      clear hg0 hg1 hg2 hkc a0 n2 B5 hv
      by_cases hk1 : nk = kind
      · have hkI1 : (nk == kind) = true := by rw [beq_iff_eq]; exact hk1
        by_cases ht : nt = txt
        · have htL : nt.toList = txt.toList := by rw [ht]
          have htI : (nt.toList == txt.toList) = true := by rw [beq_iff_eq]; exact htL
          have HF : Hid (R = 2 * (j : Int)) := by
            show _ = _
            rw [HR.out, HST.out, if_pos (by rw [hk1, ht])]
          clear hk1 ht
          go_wp2_with fail
          go_ret
          exact ⟨by rw [HF.out]; rfl, V5.out⟩
        · have htL : ¬ (nt.toList = txt.toList) := fun e => ht (toList_inj e)
          have htI : (nt.toList == txt.toList) = false := by rw [beq_eq_false_iff_ne]; exact htL
          have HST2 : Hid (keyIx g.ns X.kids (kind, txt) (KL / 2) 0 = keyIx g.ns X.kids (kind, txt) (KL / 2 - (j + 1)) (j + 1)) := by
            show _ = _
            rw [HST.out, if_neg (fun e => ht (by injection e))]
          clear hk1 ht
          go_wp2_with fail
          go_roundw
          case rel => exact ⟨j + 1, by omega, by go_num, HST2.out, V5.out, b0, m2⟩
          case measure => simp [intOf]; omega
      · have hkI1 : (nk == kind) = false := by rw [beq_eq_false_iff_ne]; exact hk1
        have HST2 : Hid (keyIx g.ns X.kids (kind, txt) (KL / 2) 0 = keyIx g.ns X.kids (kind, txt) (KL / 2 - (j + 1)) (j + 1)) := by
          show _ = _
          rw [HST.out, if_neg (fun e => hk1 (by injection e))]
        clear hk1
        go_wp2_with fail
        go_roundw
        case rel => exact ⟨j + 1, by omega, by go_num, HST2.out, V5.out, b0, m2⟩
        case measure => simp [intOf]; omega
    · obtain rfl : j = KL / 2 := by omega
      have hltI : ¬ ((2 * (((KL / 2 : Nat)) : Int) + 1) < (KL : Int)) := by omega
      have ht3 : IntKind.i64.wrap (2 * (((KL / 2 : Nat)) : Int) + 1) = 2 * (((KL / 2 : Nat)) : Int) + 1 := IntWalk.i64_in _ ⟨by omega, by omega⟩
      have HF : Hid (R = -1) := by
        show _ = _
        rw [HR.out, hix.out, Nat.sub_self]
        rfl
      go_wp2_with fail
      go_ret
      exact ⟨by rw [HF.out]; rfl, hv.out⟩
end Go.Proofs.YtpgncjfmaeiaaaaDoor.Is
