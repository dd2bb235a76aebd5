/- The entries of a Map. Conditions: rows no longer than 10^6; every kid lies in the graph. -/
import Derived.Test.YtpgncjfmaeiaaaaDoorIsRightB
set_option linter.unusedVariables false
namespace Go.Proofs.YtpgncjfmaeiaaaaDoor.Is
open Go.RowKit
def pairV (x : Int × Int) : Value := .agg #[.int .i64 x.1, .int .i64 x.2]
theorem pairV_inj {x y : Int × Int} (h : pairV x = pairV y) : x = y := by
  obtain ⟨a, s⟩ := x
  obtain ⟨b, t⟩ := y
  unfold pairV at h
  simp at h
  rw [h.1, h.2]
/-- the entry of a key among the first ones -/
def entTo (ns : List Nd) (kids : List Int) : Nat → Int × ByteArray → Option (Int × Int)
  | 0, _ => none
  | j + 1, x => if keyAt ns (kids.getD (2 * j) 0) = x then some (kids.getD (2 * j) 0, kids.getD (2 * j + 1) 0) else entTo ns kids j x
def EntIs (f : Value → Option Value) (ns : List Nd) (kids : List Int) (j : Nat) : Prop := ∀ x, f (gkey x) = (entTo ns kids j x).map pairV
theorem EntIs.put {f : Value → Option Value} {ns : List Nd} {kids : List Int} {j : Nat} (h : EntIs f ns kids j) : EntIs (put1 f (gkey (keyAt ns (kids.getD (2 * j) 0))) (pairV (kids.getD (2 * j) 0, kids.getD (2 * j + 1) 0))) ns kids (j + 1) := by
  intro x
  unfold entTo
  by_cases hx : keyAt ns (kids.getD (2 * j) 0) = x
  · rw [if_pos hx, ← hx, put1_same]
    rfl
  · rw [if_neg hx, put1_other (fun e => hx (gkey_inj e).symm), h x]
theorem mk_ents (w : World) : ∃ b w', (Instr.makeMap 57 none).run Tryd.prog w = .ok (.map (some b)) w' ∧ MF w' 60 b 0 (fun _ => none) ∧ Below w.heap.size w w' ∧ b = w.heap.size :=
  ⟨w.heap.size, w.alloc (.map #[] 0), run_makeMap _ w, MF.made w _, ext_world w _, rfl⟩
def EntPost (ns : List Nd) (kids : List Int) (w : World) (e : Ending) (w' : World) : Prop :=
  ∃ b n f, e = .returned (.map (some b)) ∧ MF w' 60 b n f ∧ n ≤ 1000000 ∧ EntIs f ns kids (kids.length / 2) ∧ w.heap.size ≤ b ∧ Below w.heap.size w w'
set_option maxRecDepth 100000 in
set_option maxHeartbeats 3200000 in
theorem entries_any (g : Gv) (n : Nd) (w : World) (G : GrIn w g) (K : KidsAt w n) (hl : n.kids.length ≤ 1000000) (hS : ∀ m ∈ g.ns, m.txt.size ≤ 1000000) (hk : ∀ k ∈ n.kids, 0 ≤ k ∧ k < g.ns.length) :
    Calls Tryd.prog 28 #[g.val, n.val] w (EntPost g.ns n.kids w) := by
  obtain ⟨A, c, ns, root⟩ := g
  obtain ⟨kind, txt, kids, ka, kc⟩ := n
  unfold Nd.val Gv.val
  simp only at hl hS hk ⊢
  have HG := Lib.hid G
  have HK := Lib.hid K
  have HT := Lib.hid hS
  have HKB := Lib.hid hk
  clear G K hS hk
  obtain ⟨L, hL⟩ : ∃ L, L = ns.length := ⟨_, rfl⟩
  obtain ⟨KL, hKL⟩ : ∃ KL, KL = kids.length := ⟨_, rfl⟩
  rw [← hL, ← hKL]
  rw [← hKL] at hl
  have HL := Lib.hid hL
  have HKL := Lib.hid hKL
  clear hL hKL
  have hs1 : (w.alloc (.cells #[.slice A L c, .int .i64 root] 24)).heap.size = w.heap.size + 1 := by simp
  obtain ⟨b, w3, hmk, m3, hb3, hbb⟩ := mk_ents ((w.alloc (.cells #[.slice A L c, .int .i64 root] 24)).alloc (.cells #[.int .i64 kind, .string txt, .slice ka KL kc] 38))
  have C3 : Hid (Below w.heap.size w w3) := ((ext_world w _).alloc (by simp) _).trans (hb3.mono (by simp; omega))
  have g3 : w3.cell? ⟨w.heap.size, 0, none⟩ = some (.slice A L c) := (hb3.cell (p := ⟨w.heap.size, 0, none⟩) (by simp; omega)).trans ((Below.cell (ext_world _ _) (p := ⟨w.heap.size, 0, none⟩) (by simp)).trans (bcell (heap_new w _ _) 0))
  have p2 : w3.cell? ⟨w.heap.size + 1, 2, none⟩ = some (.slice ka KL kc) := (hb3.cell (p := ⟨w.heap.size + 1, 2, none⟩) (by simp)).trans (by have h9 := bcell (heap_new (w.alloc (.cells #[.slice A L c, .int .i64 root] 24)) #[.int .i64 kind, .string txt, .slice ka KL kc] 38) 2; rw [hs1] at h9; exact h9)
  have HBW : Hid (w.heap.size + 1 < b) := by show _ < _; rw [hbb]; simp
  have M3 : Hid (∃ f, MF w3 60 b 0 f ∧ EntIs f ns kids 0) := ⟨_, m3, fun x => rfl⟩
  clear hb3 hbb m3 hs1
  go_enter Tryd.func28, Tryd.ntmps28
  go_wp2_with fail
  go_loopw [6] (fun v wr => ∃ j : Nat, j ≤ KL / 2 ∧ v = .int .i64 ((2 * j : Nat) : Int) ∧ Hid (∃ f, MF wr 60 b j f ∧ EntIs f ns kids j) ∧ Hid (Below w.heap.size w wr) ∧ wr.cell? ⟨w.heap.size, 0, none⟩ = some (.slice A L c) ∧ wr.cell? ⟨w.heap.size + 1, 2, none⟩ = some (.slice ka KL kc)) (fun v _ => KL - (intOf v).toNat)
  case atStart => exact ⟨0, Nat.zero_le _, rfl, M3.out, C3.out, g3, p2⟩
  case round =>
    obtain ⟨j, hj, rfl, hm, hb, g0, n2⟩ := hrel
    by_cases hlt : 2 * j + 1 < KL
    · have hltI : (2 * (j : Int) + 1) < (KL : Int) := by omega
      have hltI2 : (2 * (j : Int)) < (KL : Int) := by omega
      obtain ⟨bk, ok, hka, hbk, hkc⟩ := (HK.out.below hb.out).get (2 * j) (by show 2 * j < kids.length; rw [← HKL.out]; omega)
      obtain ⟨bk', ok', hka', hbk', hkc'⟩ := (HK.out.below hb.out).get (2 * j + 1) (by show 2 * j + 1 < kids.length; rw [← HKL.out]; omega)
      have HX := HKB.out (kids.getD (2 * j) 0) (by
        rw [List.getD_eq_getElem?_getD, List.getElem?_eq_getElem (by rw [← HKL.out]; omega)]
        exact List.getElem_mem _)
      have HW1 := HK.out.wf (kids.getD (2 * j) 0) (by
        show _ ∈ kids
        rw [List.getD_eq_getElem?_getD, List.getElem?_eq_getElem (by rw [← HKL.out]; omega)]
        exact List.getElem_mem _)
      have HW2 := HK.out.wf (kids.getD (2 * j + 1) 0) (by
        show _ ∈ kids
        rw [List.getD_eq_getElem?_getD, List.getElem?_eq_getElem (by rw [← HKL.out]; omega)]
        exact List.getElem_mem _)
      have PUT : Hid (∀ f, EntIs f ns kids j → EntIs (put1 f (gkey (keyAt ns (kids.getD (2 * j) 0))) (pairV (kids.getD (2 * j) 0, kids.getD (2 * j + 1) 0))) ns kids (j + 1)) := fun f hf => hf.put
      simp only at hka hkc hka' hkc'
      obtain ⟨rfl, rfl⟩ : bk = bk' ∧ ok = ok' := by
        rw [hka] at hka'
        injection hka' with h
        injection h with h1 h2
        exact ⟨h1, h2⟩
      generalize kids.getD (2 * j) 0 = x at hkc HX HW1 PUT
      generalize kids.getD (2 * j + 1) 0 = y at hkc' HW2 PUT
      obtain ⟨xn, rfl⟩ : ∃ xn : Nat, x = (xn : Int) := ⟨x.toNat, by omega⟩
      have hxn : xn < L := by rw [HL.out]; omega
      have hxI : (xn : Int) < (L : Int) := by omega
      obtain ⟨bg, og, hAg, hbg, hg0, hg1, hg2⟩ := (HG.out.below hb.out).get xn (by show xn < ns.length; rw [← HL.out]; exact hxn)
      have HKA : Hid (keyAt ns (xn : Int) = ((ns.getD xn nd0).kind, (ns.getD xn nd0).txt)) := rfl
      have HTX := HT.out (ns.getD xn nd0) (getD_memD (by rw [← HL.out]; exact hxn))
      have HWK := (HG.out.kids (ns.getD xn nd0) (getD_memD (by show xn < ns.length; rw [← HL.out]; exact hxn))).kwf
      simp only at hAg hg0 hg1 hg2
      rw [HKA.out] at PUT
      generalize ns.getD xn nd0 = nd at hg0 hg1 hg2 PUT HTX HWK
      obtain ⟨xk, xt, xkids, xka, xkc⟩ := nd
      simp only at hg0 hg1 hg2 PUT HTX HWK
      clear HKA hka'
      generalize xkids.length = xkl at hg2
      have hj0 : (0 : Int) ≤ 2 * (j : Int) := by omega
      have hj1 : (2 * (j : Int)) < (KL : Int) := by omega
      have hj2 : (2 * (j : Int)).toNat = 2 * j := by omega
      subst hAg hka
      go_wp2_with fail
      go_region_held3 (fun w' => w'.cell? ⟨w.heap.size, 0, none⟩ = some (.slice (some ⟨bg, og, none⟩) L c) ∧ w'.cell? ⟨w.heap.size + 1, 2, none⟩ = some (.slice (some ⟨bk, ok, none⟩) KL kc) ∧ w'.cell? ⟨bk, ok + 2 * j, none⟩ = some (.int .i64 (xn : Int)) ∧ w'.cell? ⟨bg, og + xn * 3, none⟩ = some (.int .i64 xk) ∧ w'.cell? ⟨bg, og + xn * 3 + 1, none⟩ = some (.string xt) ∧ w'.cell? ⟨bg, og + xn * 3 + 2, none⟩ = some (.slice xka xkl xkc))
        (go_keep)
        (first
          | (refine wpList_store_row rfl 38 _ _ rfl _ #[.int .i64 xk, .string xt, .slice xka xkl xkc] rfl rfl 38 _ (heap_new _ _ _) (by kernel_rfl) rfl (by simp [Value.oneCell']) ?_)
          | fail)
      all_goals
        have B5 : Hid (Below wr.heap.size wr (wr.alloc (.cells #[.int .i64 xk, .string xt, .slice xka xkl xkc] 38)).drew) := dr (ext_world wr _) 1
        have x0 : (wr.alloc (.cells #[.int .i64 xk, .string xt, .slice xka xkl xkc] 38)).drew.cell? ⟨wr.heap.size, 0, none⟩ = some (.int .i64 xk) := bcell (heap_new wr _ _) 0
        have x1 : (wr.alloc (.cells #[.int .i64 xk, .string xt, .slice xka xkl xkc] 38)).drew.cell? ⟨wr.heap.size, 1, none⟩ = some (.string xt) := bcell (heap_new wr _ _) 1
        generalize (wr.alloc (.cells #[.int .i64 xk, .string xt, .slice xka xkl xkc] 38)).drew = w5 at B5 x0 x1 ⊢
        have g5 : w5.cell? ⟨w.heap.size, 0, none⟩ = some (.slice (some ⟨bg, og, none⟩) L c) := (B5.out.cell (p := ⟨w.heap.size, 0, none⟩) (block_lt_of_cell g0)).trans g0
        have n5 : w5.cell? ⟨w.heap.size + 1, 2, none⟩ = some (.slice (some ⟨bk, ok, none⟩) KL kc) := (B5.out.cell (p := ⟨w.heap.size + 1, 2, none⟩) (block_lt_of_cell n2)).trans n2
        have k5 : w5.cell? ⟨bk, ok + 2 * j, none⟩ = some (.int .i64 (xn : Int)) := (B5.out.cell (p := ⟨bk, _, none⟩) hbk).trans hkc
        have k6 : w5.cell? ⟨bk, ok + (2 * j + 1), none⟩ = some (.int .i64 y) := (B5.out.cell (p := ⟨bk, _, none⟩) hbk).trans hkc'
        have C5 : Hid (Below w.heap.size w w5) := hb.out.trans (B5.out.mono hb.out.size)
        obtain ⟨kl, hkey⟩ := keyOf_ikey (s := xt) HWK (by unfold maxLen; omega)
        have UP : ∃ w6, (Instr.mapUpdate 57 (.map (some b)) (.agg #[.int .i64 xk, .string xt]) (.agg #[.int .i64 (xn : Int), .int .i64 y])).run Tryd.prog w5.drew = .ok () w6 ∧ (∃ f, MF w6 60 b (j + 1) f ∧ EntIs f ns kids (j + 1)) ∧ w5.drew.grownBy w6 (some b) := by
          obtain ⟨f, h1, h2⟩ := hm.out
          obtain ⟨w6, h3, h4, h5⟩ := (h1.below (dr B5.out 1)).update keyed_ikey Tryd.underlying57 (by unfold maxLen; omega) hkey (RX_pair (xn : Int) y)
          exact ⟨w6, h3, ⟨_, h4, PUT.out f h2⟩, h5⟩
        obtain ⟨w6, hup, hm6, hg6⟩ := UP
        have HM6 := Lib.hid hm6
        have hwd := C5.out.size
        have C6 : Hid (Below w.heap.size w w6) := (dr C5.out 1).grown hg6 hwd (fun q hq => by injection hq with hq; have h9 := HBW.out; omega)
        have g6 : w6.cell? ⟨w.heap.size, 0, none⟩ = some (.slice (some ⟨bg, og, none⟩) L c) := hg6.cell (show w5.drew.cell? _ = _ from g5) (by intro e; injection e with e; have h9 := HBW.out; simp only at e; omega)
        have n6 : w6.cell? ⟨w.heap.size + 1, 2, none⟩ = some (.slice (some ⟨bk, ok, none⟩) KL kc) := hg6.cell (show w5.drew.cell? _ = _ from n5) (by intro e; injection e with e; have h9 := HBW.out; simp only at e; omega)
        clear hg6 hm6 hm hkc hkc' hg0 hg1 hg2 g0 n2 hwd
        have ht1 : (2 * (j : Int)).toNat = 2 * j := by omega
        have ht2 : (2 * (j : Int) + 1).toNat = 2 * j + 1 := by omega
        have ht3 : IntKind.i64.wrap (2 * (j : Int) + 1) = 2 * (j : Int) + 1 := IntWalk.i64_in _ ⟨by omega, by omega⟩
        have ht4 : (0 : Int) ≤ 2 * (j : Int) + 1 := by omega
        go_wp2_with fail
        refine wp_region_still_tail 18 (by kernel_rfl) (by kernel_rfl) ?_
        simp only [List.take_succ_cons, List.take_zero, List.drop_succ_cons, List.drop_zero]
        change wpStill _ _ w5.drew _ _ _
        iterate 18 still_step
        refine wpStill_nil ?_
        change wpList _ _ _ _ _ w5.drew
        go_wp2_with fail
        go_roundw
        case rel => exact ⟨j + 1, by omega, by go_num, HM6.out, C6.out, g6, n6⟩
        case measure => simp [intOf]; omega
    · have hjE : Hid (j = KL / 2) := by show _ = _; omega
      have hltI : ¬ ((2 * (j : Int) + 1) < (KL : Int)) := by omega
      have HF : Hid (∃ f, MF wr 60 b j f ∧ EntIs f ns kids (kids.length / 2)) := by
        show ∃ _, _
        rw [← HKL.out, ← hjE.out]
        exact hm.out
      have hbase : Hid (w.heap.size ≤ b) := by show _ ≤ _; have h9 := HBW.out; omega
      go_wp2_with fail
      go_ret
      obtain ⟨f, h1, h2⟩ := HF.out
      exact ⟨b, j, f, rfl, h1, by have h9 := hjE.out; omega, h2, hbase.out, hb.out⟩
end Go.Proofs.YtpgncjfmaeiaaaaDoor.Is
