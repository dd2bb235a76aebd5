/- IsoFinds: the walk. Conditions: the library's variables as they are laid; a text no longer than the model's bound. -/
import Derived.Test.YtpgncjfmaeiaaaaDoorLawIsA
set_option linter.unusedVariables false
namespace Go.Proofs.YtpgncjfmaeiaaaaDoor.Is
open Go.RowKit
set_option maxRecDepth 100000 in
set_option maxHeartbeats 6400000 in
theorem law_IsoFinds (w : World) (g : Gv) (at_ : Int) (q : Nd) (E : Env w) (G : GrIn w g) (ha : wf64 at_) (Kq : KidsAt w q) (hq : q.txt.size ≤ 140737488351232) : Calls Tryd.prog 5 #[g.val, .int .i64 at_, q.val] w (BoolPost true w) := by
  have LA : Hid (∀ V, Below w.heap.size w V → Calls Tryd.prog 7 #[.agg #[.slice g.A g.ns.length g.c, .int .i64 g.root]] V (BoolPost (largeN g.ns) V)) := fun V hV => (large_any V g (G.below hV)).mono fun e w' h => ⟨h.1, h.2.out⟩
  have RA : Hid (largeN g.ns = false → ∀ V, Below w.heap.size w V → Calls Tryd.prog 15 #[.agg #[.slice g.A g.ns.length g.c, .int .i64 g.root]] V (BoolPost (rightN g) V)) := fun h V hV => right_any g V (E.below hV) (G.below hV) (small_of h)
  have AL : Hid (∀ V, Below w.heap.size w V → Calls Tryd.prog 8 #[] V (BoolPost true V)) := fun V hV => alive_any V (E.below hV)
  have FI : Hid (largeN g.ns = false → ∀ (k : Int) (s : ByteArray), wf64 k → s.size ≤ 140737488351232 → ∀ V, Below w.heap.size w V → Calls Tryd.prog 17 #[.agg #[.slice g.A g.ns.length g.c, .int .i64 g.root], .int .i64 at_, .int .i64 k, .string s] V (FindPost (findN g at_ k s) V)) := fun h k s hk hs V hV => find_any g at_ k s V (E.below hV) (G.below hV) (small_of h) hk hs
  have SM : Hid (largeN g.ns = false → SmallG g.ns) := fun h => small_of h
  have HG := Lib.hid G
  have hqk := Lib.hid Kq.kwf
  have HQ := Lib.hid hq
  have a0 : (((w.alloc (.cells #[.slice g.A g.ns.length g.c, .int .i64 g.root] 24)).alloc (.cells #[.int .i64 q.kind, .string q.txt, .slice q.ka q.kids.length q.kc] 38))).cell? ⟨w.heap.size, 0, none⟩ = some (.slice g.A g.ns.length g.c) := (Below.cell (ext_world _ _) (p := ⟨w.heap.size, 0, none⟩) (by simp)).trans (bcell (heap_new w _ _) 0)
  have a1 : (((w.alloc (.cells #[.slice g.A g.ns.length g.c, .int .i64 g.root] 24)).alloc (.cells #[.int .i64 q.kind, .string q.txt, .slice q.ka q.kids.length q.kc] 38))).cell? ⟨w.heap.size, 1, none⟩ = some (.int .i64 g.root) := (Below.cell (ext_world _ _) (p := ⟨w.heap.size, 1, none⟩) (by simp)).trans (bcell (heap_new w _ _) 1)
  have hs1 : (w.alloc (.cells #[.slice g.A g.ns.length g.c, .int .i64 g.root] 24)).heap.size = w.heap.size + 1 := by simp
  have h9 := heap_new (w.alloc (.cells #[.slice g.A g.ns.length g.c, .int .i64 g.root] 24)) #[.int .i64 q.kind, .string q.txt, .slice q.ka q.kids.length q.kc] 38
  rw [hs1] at h9
  have q0 := bcell h9 0
  have q1 := bcell h9 1
  have hv : Hid (Below w.heap.size w ((w.alloc (.cells #[.slice g.A g.ns.length g.c, .int .i64 g.root] 24)).alloc (.cells #[.int .i64 q.kind, .string q.txt, .slice q.ka q.kids.length q.kc] 38))) := (ext_world w _).alloc (by simp) _
  unfold Gv.val Nd.val
  clear E G Kq hq hs1 h9
  obtain ⟨la, hla⟩ : ∃ la, la = largeN g.ns := ⟨_, rfl⟩
  obtain ⟨ra, hra⟩ : ∃ ra, ra = rightN g := ⟨_, rfl⟩
  rw [← hla] at LA RA FI SM
  rw [← hra] at RA
  have HRA := Lib.hid hra
  clear hla hra
  go_enter Tryd.func5, Tryd.ntmps5
  go_wp2_with fail
  generalize ((w.alloc (.cells #[.slice g.A g.ns.length g.c, .int .i64 g.root] 24)).alloc (.cells #[.int .i64 q.kind, .string q.txt, .slice q.ka q.kids.length q.kc] 38)) = V at a0 a1 q0 q1 hv ⊢
  refine wp_region_still_lit (by kernel_rfl) (by kernel_rfl) ?_
  change wpStill _ _ V.drew _ _ _
  iterate 6 still_step
  refine wpStill_nil ?_
  change Exit.then _ _ _ _ V.drew
  replace a0 : V.drew.cell? ⟨w.heap.size, 0, none⟩ = some (.slice g.A g.ns.length g.c) := a0
  replace a1 : V.drew.cell? ⟨w.heap.size, 1, none⟩ = some (.int .i64 g.root) := a1
  replace hv := Lib.hid hv.out.drew
  generalize V.drew = V1 at a0 a1 hv ⊢
  clear q0 q1
  cases la with
  | true =>
    go_wp2_with (first | (go_at_call 7; (with_reducible refine (LA.out _ hv.out).mono ?_); rintro e wq ⟨rfl, hb⟩; replace a0 := (hb.cell (p := ⟨w.heap.size, 0, none⟩) (block_lt_of_cell a0)).trans a0; replace a1 := (hb.cell (p := ⟨w.heap.size, 1, none⟩) (block_lt_of_cell a1)).trans a1; replace hv := Lib.hid (hv.out.trans (hb.mono hv.out.size)); clear hb) | (go_at_call 8; (with_reducible refine (AL.out _ hv.out).mono ?_); rintro e wq ⟨rfl, hb⟩; replace hv := Lib.hid (hv.out.trans (hb.mono hv.out.size)); clear hb))
    go_ret
    exact ⟨rfl, hv.out⟩
  | false =>
    replace RA := Lib.hid (RA.out rfl)
    replace FI := Lib.hid (FI.out rfl)
    replace SM := Lib.hid (SM.out rfl)
    cases ra with
    | false =>
      go_wp2_with (first | (go_at_call 7; (with_reducible refine (LA.out _ hv.out).mono ?_); rintro e wq ⟨rfl, hb⟩; replace a0 := (hb.cell (p := ⟨w.heap.size, 0, none⟩) (block_lt_of_cell a0)).trans a0; replace a1 := (hb.cell (p := ⟨w.heap.size, 1, none⟩) (block_lt_of_cell a1)).trans a1; replace hv := Lib.hid (hv.out.trans (hb.mono hv.out.size)); clear hb) | (go_at_call 15; (with_reducible refine (RA.out _ hv.out).mono ?_); rintro e wq ⟨rfl, hb⟩; replace a0 := (hb.cell (p := ⟨w.heap.size, 0, none⟩) (block_lt_of_cell a0)).trans a0; replace a1 := (hb.cell (p := ⟨w.heap.size, 1, none⟩) (block_lt_of_cell a1)).trans a1; replace hv := Lib.hid (hv.out.trans (hb.mono hv.out.size)); clear hb) | (go_at_call 8; (with_reducible refine (AL.out _ hv.out).mono ?_); rintro e wq ⟨rfl, hb⟩; replace hv := Lib.hid (hv.out.trans (hb.mono hv.out.size)); clear hb))
      go_ret
      exact ⟨rfl, hv.out⟩
    | true =>
      by_cases h0 : at_ < 0
      · go_wp2_with (first | (go_at_call 7; (with_reducible refine (LA.out _ hv.out).mono ?_); rintro e wq ⟨rfl, hb⟩; replace a0 := (hb.cell (p := ⟨w.heap.size, 0, none⟩) (block_lt_of_cell a0)).trans a0; replace a1 := (hb.cell (p := ⟨w.heap.size, 1, none⟩) (block_lt_of_cell a1)).trans a1; replace hv := Lib.hid (hv.out.trans (hb.mono hv.out.size)); clear hb) | (go_at_call 15; (with_reducible refine (RA.out _ hv.out).mono ?_); rintro e wq ⟨rfl, hb⟩; replace a0 := (hb.cell (p := ⟨w.heap.size, 0, none⟩) (block_lt_of_cell a0)).trans a0; replace a1 := (hb.cell (p := ⟨w.heap.size, 1, none⟩) (block_lt_of_cell a1)).trans a1; replace hv := Lib.hid (hv.out.trans (hb.mono hv.out.size)); clear hb) | (go_at_call 8; (with_reducible refine (AL.out _ hv.out).mono ?_); rintro e wq ⟨rfl, hb⟩; replace hv := Lib.hid (hv.out.trans (hb.mono hv.out.size)); clear hb))
        go_ret
        exact ⟨rfl, hv.out⟩
      · by_cases h1 : (g.ns.length : Int) ≤ at_
        · have h1' : ¬ (at_ < (g.ns.length : Int)) := by omega
          go_wp2_with (first | (go_at_call 7; (with_reducible refine (LA.out _ hv.out).mono ?_); rintro e wq ⟨rfl, hb⟩; replace a0 := (hb.cell (p := ⟨w.heap.size, 0, none⟩) (block_lt_of_cell a0)).trans a0; replace a1 := (hb.cell (p := ⟨w.heap.size, 1, none⟩) (block_lt_of_cell a1)).trans a1; replace hv := Lib.hid (hv.out.trans (hb.mono hv.out.size)); clear hb) | (go_at_call 15; (with_reducible refine (RA.out _ hv.out).mono ?_); rintro e wq ⟨rfl, hb⟩; replace a0 := (hb.cell (p := ⟨w.heap.size, 0, none⟩) (block_lt_of_cell a0)).trans a0; replace a1 := (hb.cell (p := ⟨w.heap.size, 1, none⟩) (block_lt_of_cell a1)).trans a1; replace hv := Lib.hid (hv.out.trans (hb.mono hv.out.size)); clear hb) | (go_at_call 8; (with_reducible refine (AL.out _ hv.out).mono ?_); rintro e wq ⟨rfl, hb⟩; replace hv := Lib.hid (hv.out.trans (hb.mono hv.out.size)); clear hb))
          go_ret
          exact ⟨rfl, hv.out⟩
        · obtain ⟨k, rfl⟩ : ∃ k : Nat, at_ = (k : Int) := ⟨at_.toNat, by omega⟩
          have hkn : k < g.ns.length := by omega
          have hkI : (k : Int) < (g.ns.length : Int) := by omega
          go_wp2_with ((go_at_call 7; (with_reducible refine (LA.out _ hv.out).mono ?_); rintro e wq ⟨rfl, hb⟩; replace a0 := (hb.cell (p := ⟨w.heap.size, 0, none⟩) (block_lt_of_cell a0)).trans a0; replace a1 := (hb.cell (p := ⟨w.heap.size, 1, none⟩) (block_lt_of_cell a1)).trans a1; replace hv := Lib.hid (hv.out.trans (hb.mono hv.out.size)); clear hb))
          with_reducible refine (RA.out _ hv.out).mono ?_
          rintro e wq ⟨rfl, hb⟩
          replace a0 := (hb.cell (p := ⟨w.heap.size, 0, none⟩) (block_lt_of_cell a0)).trans a0
          replace a1 := (hb.cell (p := ⟨w.heap.size, 1, none⟩) (block_lt_of_cell a1)).trans a1
          replace hv := Lib.hid (hv.out.trans (hb.mono hv.out.size))
          clear hb
          have RT : Hid (rightN g = true) := HRA.out.symm
          obtain ⟨b, off, hA, hbl, hc0, hc1, hc2⟩ := (HG.out.below hv.out).get k hkn
          have HF2 := Lib.hid (find_there RT.out hkn q.kind q.txt)
          have HF1 : Hid (∀ i, (g.ns.getD k nd0).kind = 6 → 2 * i + 1 < (g.ns.getD k nd0).kids.length → findN g (k : Int) (keyAt g.ns ((g.ns.getD k nd0).kids.getD (2 * i) 0)).1 (keyAt g.ns ((g.ns.getD k nd0).kids.getD (2 * i) 0)).2 = ((g.ns.getD k nd0).kids.getD (2 * i + 1) 0, true)) := fun i h6 hi => find_at RT.out hkn h6 hi
          have XM := Lib.hid (getD_memD hkn)
          generalize g.ns.getD k nd0 = X at hc0 hc1 hc2 HF2 HF1 XM
          have HKX := Lib.hid (HG.out.kids X XM.out)
          have hklS := (SM.out (right_len RT.out).2.1 X XM.out).2
          have HRX := Lib.hid (right_kids RT.out XM.out)
          obtain ⟨KL, hKL⟩ : ∃ KL, KL = X.kids.length := ⟨_, rfl⟩
          have HKL := Lib.hid hKL
          rw [← hKL] at hc2 hklS
          rw [hA] at a0
          clear hKL
          have HR0 := Lib.hid (Kept.first wq 38 #[.int .i64 0, .string ⟨#[]⟩, .slice none 0 0])
          have HR1 := Lib.hid (HR0.out.set #[.int .i64 X.kind, .string X.txt, .slice X.ka KL X.kc])
          have n0 := HR1.out.cell 0
          have n2 := HR1.out.cell 2
          have hone : (#[Value.int .i64 X.kind, Value.string X.txt, Value.slice X.ka KL X.kc]).all (·.oneCell') = true := by simp [Value.oneCell']
          have c0 := (HR1.out.2.cell (p := ⟨w.heap.size, 0, none⟩) (block_lt_of_cell a0)).trans a0
          have c1 := (HR1.out.2.cell (p := ⟨w.heap.size, 1, none⟩) (block_lt_of_cell a1)).trans a1
          have hv4 : Hid (Below w.heap.size w ((wq.alloc (.cells #[.int .i64 0, .string ⟨#[]⟩, .slice none 0 0] 38)).setRow wq.heap.size #[.int .i64 X.kind, .string X.txt, .slice X.ka KL X.kc])) := hv.out.trans (HR1.out.2.mono hv.out.size)
          go_wp2_with (refine wpList_store_row rfl 38 _ _ rfl wq.heap.size #[.int .i64 X.kind, .string X.txt, .slice X.ka KL X.kc] rfl rfl 38 _ HR0.out.1 (by kernel_rfl) rfl hone ?_)
          generalize wq.heap.size = nb at n0 n2 c0 c1 hv4 ⊢
          generalize ((wq.alloc (.cells #[.int .i64 0, .string ⟨#[]⟩, .slice none 0 0] 38)).setRow nb #[.int .i64 X.kind, .string X.txt, .slice X.ka KL X.kc]) = w4 at n0 n2 c0 c1 hv4 ⊢
          clear HR0 HR1 hv a0 a1 hc0 hc1 hc2 hbl
          by_cases h6 : X.kind = 6
          · have h6I : (X.kind == 6) = true := by rw [beq_iff_eq]; exact h6
            have HF3 : Hid ((findN g (k : Int) q.kind q.txt).2 = thereN g X q.kind q.txt (KL / 2)) := by
              have h9 := HF2.out
              rw [decide_eq_true h6, Bool.true_and, ← HKL.out] at h9
              exact h9
            have HF4 : Hid (∀ i, 2 * i + 1 < KL → findN g (k : Int) (keyAt g.ns (X.kids.getD (2 * i) 0)).1 (keyAt g.ns (X.kids.getD (2 * i) 0)).2 = (X.kids.getD (2 * i + 1) 0, true)) := fun i hi => HF1.out i h6 (by rw [← HKL.out]; exact hi)
            clear HF1 HF2 h6
            go_loopw [10, 11] (fun u v wr => ∃ j : Nat, j ≤ KL / 2 ∧ u = .bool (thereN g X q.kind q.txt j) ∧ v = .int .i64 ((2 * j : Nat) : Int) ∧ Hid (Below w.heap.size w wr) ∧ wr.cell? ⟨w.heap.size, 0, none⟩ = some (.slice (some ⟨b, off, none⟩) g.ns.length g.c) ∧ wr.cell? ⟨w.heap.size, 1, none⟩ = some (.int .i64 g.root) ∧ wr.cell? ⟨nb, 0, none⟩ = some (.int .i64 X.kind) ∧ wr.cell? ⟨nb, 2, none⟩ = some (.slice X.ka KL X.kc)) (fun _ v _ => KL - (intOf v).toNat)
            case atStart => exact ⟨0, Nat.zero_le _, rfl, rfl, hv4.out, c0, c1, n0, n2⟩
            case round =>
              clear c0 c1 n0 n2 hv4
              obtain ⟨j, hj, rfl, rfl, hv, a0, a1, n0, n2⟩ := hrel
              by_cases hlt : 2 * j + 1 < KL
              · have hltI : (2 * (j : Int) + 1) < (KL : Int) := by omega
                have hltI2 : (2 * (j : Int)) < (KL : Int) := by omega
                have ht1 : (2 * (j : Int)).toNat = 2 * j := by omega
                have ht2 : (2 * (j : Int) + 1).toNat = 2 * j + 1 := by omega
                have ht3 : IntKind.i64.wrap (2 * (j : Int) + 1) = 2 * (j : Int) + 1 := IntWalk.i64_in _ ⟨by omega, by omega⟩
                have ht4 : (0 : Int) ≤ 2 * (j : Int) + 1 := by omega
                have ht5 : (0 : Int) ≤ 2 * (j : Int) := by omega
                obtain ⟨bk, ok, hka, hbk, hkc⟩ := (HKX.out.below hv.out).get (2 * j) (by rw [← HKL.out]; omega)
                obtain ⟨bk', ok', hka', hbk', hkc'⟩ := (HKX.out.below hv.out).get (2 * j + 1) (by rw [← HKL.out]; omega)
                obtain ⟨rfl, rfl⟩ : bk = bk' ∧ ok = ok' := by
                  rw [hka] at hka'
                  injection hka' with h
                  injection h with h1 h2
                  exact ⟨h1, h2⟩
                have hkr := HRX.out (X.kids.getD (2 * j) 0) (getD_mem (by rw [← HKL.out]; omega))
                have HFJ := Lib.hid (HF4.out j hlt)
                have HTS : Hid (thereN g X q.kind q.txt (j + 1) = (thereN g X q.kind q.txt j || (decide ((keyAt g.ns (X.kids.getD (2 * j) 0)).1 = q.kind) && decide ((keyAt g.ns (X.kids.getD (2 * j) 0)).2 = q.txt)))) := there_succ g X q.kind q.txt j
                generalize X.kids.getD (2 * j) 0 = xa at hkc hkr HFJ HTS
                generalize X.kids.getD (2 * j + 1) 0 = xb at hkc' HFJ
                obtain ⟨xn, rfl⟩ : ∃ xn : Nat, xa = (xn : Int) := ⟨xa.toNat, by omega⟩
                have hxn : xn < g.ns.length := by omega
                have hxI : (xn : Int) < (g.ns.length : Int) := by omega
                obtain ⟨bg, og, hAg, hbg, hg0, hg1, hg2⟩ := (HG.out.below hv.out).get xn hxn
                obtain ⟨rfl, rfl⟩ : b = bg ∧ off = og := by
                  rw [hA] at hAg
                  injection hAg with h
                  injection h with h1 h2
                  exact ⟨h1, h2⟩
                have HKA : Hid (keyAt g.ns (xn : Int) = ((g.ns.getD xn nd0).kind, (g.ns.getD xn nd0).txt)) := rfl
                have HTX := (SM.out (right_len RT.out).2.1 (g.ns.getD xn nd0) (getD_memD hxn)).1
                have HWK := (HG.out.kids (g.ns.getD xn nd0) (getD_memD hxn)).kwf
                rw [HKA.out] at HFJ HTS
                generalize g.ns.getD xn nd0 = nd at hg0 hg1 hg2 HFJ HTS HTX HWK
                obtain ⟨nk, nt, nkids, nka, nkc⟩ := nd
                simp only at hg0 hg1 hg2 HTX HWK
                generalize nkids.length = nkl at hg2
                clear HKA hka' hAg
                rw [hka] at n2
                have HKAX := Lib.hid hka
                clear hka
                obtain ⟨t1, hT1⟩ : ∃ t, t = thereN g X q.kind q.txt (j + 1) := ⟨_, rfl⟩
                have HT1 := Lib.hid hT1
                rw [← hT1] at HTS
                clear hT1
                generalize thereN g X q.kind q.txt j = t0 at HTS ⊢
                simp only at HTS
                go_wp2_with fail
                go_region_held3 (fun w' => w'.cell? ⟨w.heap.size, 0, none⟩ = some (.slice (some ⟨b, off, none⟩) g.ns.length g.c) ∧ w'.cell? ⟨nb, 2, none⟩ = some (.slice (some ⟨bk, ok, none⟩) KL X.kc) ∧ w'.cell? ⟨bk, ok + 2 * j, none⟩ = some (.int .i64 (xn : Int)) ∧ w'.cell? ⟨b, off + xn * 3, none⟩ = some (.int .i64 nk) ∧ w'.cell? ⟨b, off + xn * 3 + 1, none⟩ = some (.string nt) ∧ w'.cell? ⟨b, off + xn * 3 + 2, none⟩ = some (.slice nka nkl nkc))
                  (go_keep)
                  (fail)
                have B5 : Hid (Below wr.heap.size wr (wr.alloc (.cells #[.int .i64 nk, .string nt, .slice nka nkl nkc] 38)).drew) := dr (ext_world wr _) 1
                have z0 : (wr.alloc (.cells #[.int .i64 nk, .string nt, .slice nka nkl nkc] 38)).drew.cell? ⟨wr.heap.size, 0, none⟩ = some (.int .i64 nk) := bcell (heap_new wr _ _) 0
                have z1 : (wr.alloc (.cells #[.int .i64 nk, .string nt, .slice nka nkl nkc] 38)).drew.cell? ⟨wr.heap.size, 1, none⟩ = some (.string nt) := bcell (heap_new wr _ _) 1
                generalize (wr.alloc (.cells #[.int .i64 nk, .string nt, .slice nka nkl nkc] 38)).drew = w5 at B5 z0 z1 ⊢
                have V5 : Hid (Below w.heap.size w w5) := hv.out.trans (B5.out.mono hv.out.size)
                have b0 := (B5.out.cell (p := ⟨w.heap.size, 0, none⟩) (block_lt_of_cell a0)).trans a0
                have b1 := (B5.out.cell (p := ⟨w.heap.size, 1, none⟩) (block_lt_of_cell a1)).trans a1
                have m0 := (B5.out.cell (p := ⟨nb, 0, none⟩) (block_lt_of_cell n0)).trans n0
                have m2 := (B5.out.cell (p := ⟨nb, 2, none⟩) (block_lt_of_cell n2)).trans n2
                have k8 := (B5.out.cell (p := ⟨bk, _, none⟩) hbk).trans hkc'
                generalize wr.heap.size = kb at z0 z1 ⊢
                clear hg0 hg1 hg2 hkc hkc' a0 a1 n0 n2 B5 hv
                have FT : Hid (Calls Tryd.prog 17 #[.agg #[.slice (some ⟨b, off, none⟩) g.ns.length g.c, .int .i64 g.root], .int .i64 (k : Int), .int .i64 nk, .string nt] w5 (FindPost (xb, true) w5)) := by
                  have h9 := FI.out nk nt HWK (by omega) w5 V5.out
                  rw [hA] at h9
                  have h8 : findN g (k : Int) nk nt = (xb, true) := HFJ.out
                  rw [h8] at h9
                  exact h9
                have hbb : (xb != xb) = false := by rw [bne_eq_false_iff_eq]
                have FIN : ∀ b, (nk = q.kind → nt = q.txt → b = true) → True := fun _ _ => trivial
                clear FIN
                cases t0 with
                | true =>
                  have HT2 : Hid (t1 = true) := by show _ = _; rw [HTS.out, Bool.true_or]
                  clear HTS
                  go_wp2_with (go_at_call 17; (with_reducible refine FT.out.mono ?_); rintro e w6 ⟨rfl, hb⟩; replace b0 := (hb.cell (p := ⟨w.heap.size, 0, none⟩) (block_lt_of_cell b0)).trans b0; replace b1 := (hb.cell (p := ⟨w.heap.size, 1, none⟩) (block_lt_of_cell b1)).trans b1; replace m0 := (hb.cell (p := ⟨nb, 0, none⟩) (block_lt_of_cell m0)).trans m0; replace m2 := (hb.cell (p := ⟨nb, 2, none⟩) (block_lt_of_cell m2)).trans m2; replace k8 := (hb.cell (p := ⟨bk, _, none⟩) (block_lt_of_cell k8)).trans k8; replace z0 := (hb.cell (p := ⟨kb, 0, none⟩) (block_lt_of_cell z0)).trans z0; replace z1 := (hb.cell (p := ⟨kb, 1, none⟩) (block_lt_of_cell z1)).trans z1; have V6 := Lib.hid (V5.out.trans (hb.mono V5.out.size)); clear hb)
                  go_roundw
                  case rel => exact ⟨j + 1, by omega, by rw [← HT1.out, HT2.out], by go_num, V6.out, b0, b1, m0, by rw [HKAX.out]; exact m2⟩
                  case measure => simp [intOf]; omega
                | false =>
                  by_cases hk1 : nk = q.kind
                  · have hkI1 : (nk == q.kind) = true := by rw [beq_iff_eq]; exact hk1
                    by_cases ht : nt = q.txt
                    · have htL : nt.toList = q.txt.toList := by rw [ht]
                      have htI : (nt.toList == q.txt.toList) = true := by rw [beq_iff_eq]; exact htL
                      have HT2 : Hid (t1 = true) := by show _ = _; rw [HTS.out, decide_eq_true hk1, decide_eq_true ht]; rfl
                      clear HTS hk1 ht
                      go_wp2_with (go_at_call 17; (with_reducible refine FT.out.mono ?_); rintro e w6 ⟨rfl, hb⟩; replace b0 := (hb.cell (p := ⟨w.heap.size, 0, none⟩) (block_lt_of_cell b0)).trans b0; replace b1 := (hb.cell (p := ⟨w.heap.size, 1, none⟩) (block_lt_of_cell b1)).trans b1; replace m0 := (hb.cell (p := ⟨nb, 0, none⟩) (block_lt_of_cell m0)).trans m0; replace m2 := (hb.cell (p := ⟨nb, 2, none⟩) (block_lt_of_cell m2)).trans m2; replace k8 := (hb.cell (p := ⟨bk, _, none⟩) (block_lt_of_cell k8)).trans k8; replace z0 := (hb.cell (p := ⟨kb, 0, none⟩) (block_lt_of_cell z0)).trans z0; replace z1 := (hb.cell (p := ⟨kb, 1, none⟩) (block_lt_of_cell z1)).trans z1; have V6 := Lib.hid (V5.out.trans (hb.mono V5.out.size)); clear hb)
                      go_roundw
                      case rel => exact ⟨j + 1, by omega, by rw [← HT1.out, HT2.out], by go_num, V6.out, b0, b1, m0, by rw [HKAX.out]; exact m2⟩
                      case measure => simp [intOf]; omega
                    · have htL : ¬ (nt.toList = q.txt.toList) := fun e => ht (toList_inj e)
                      have htI : (nt.toList == q.txt.toList) = false := by rw [beq_eq_false_iff_ne]; exact htL
                      have HT2 : Hid (t1 = false) := by show _ = _; rw [HTS.out, decide_eq_false ht, Bool.and_false]; rfl
                      clear HTS hk1 ht
                      go_wp2_with (go_at_call 17; (with_reducible refine FT.out.mono ?_); rintro e w6 ⟨rfl, hb⟩; replace b0 := (hb.cell (p := ⟨w.heap.size, 0, none⟩) (block_lt_of_cell b0)).trans b0; replace b1 := (hb.cell (p := ⟨w.heap.size, 1, none⟩) (block_lt_of_cell b1)).trans b1; replace m0 := (hb.cell (p := ⟨nb, 0, none⟩) (block_lt_of_cell m0)).trans m0; replace m2 := (hb.cell (p := ⟨nb, 2, none⟩) (block_lt_of_cell m2)).trans m2; replace k8 := (hb.cell (p := ⟨bk, _, none⟩) (block_lt_of_cell k8)).trans k8; replace z0 := (hb.cell (p := ⟨kb, 0, none⟩) (block_lt_of_cell z0)).trans z0; replace z1 := (hb.cell (p := ⟨kb, 1, none⟩) (block_lt_of_cell z1)).trans z1; have V6 := Lib.hid (V5.out.trans (hb.mono V5.out.size)); clear hb)
                      go_roundw
                      case rel => exact ⟨j + 1, by omega, by rw [← HT1.out, HT2.out], by go_num, V6.out, b0, b1, m0, by rw [HKAX.out]; exact m2⟩
                      case measure => simp [intOf]; omega
                  · have hkI1 : (nk == q.kind) = false := by rw [beq_eq_false_iff_ne]; exact hk1
                    have HT2 : Hid (t1 = false) := by show _ = _; rw [HTS.out, decide_eq_false hk1]; rfl
                    clear HTS hk1
                    go_wp2_with (go_at_call 17; (with_reducible refine FT.out.mono ?_); rintro e w6 ⟨rfl, hb⟩; replace b0 := (hb.cell (p := ⟨w.heap.size, 0, none⟩) (block_lt_of_cell b0)).trans b0; replace b1 := (hb.cell (p := ⟨w.heap.size, 1, none⟩) (block_lt_of_cell b1)).trans b1; replace m0 := (hb.cell (p := ⟨nb, 0, none⟩) (block_lt_of_cell m0)).trans m0; replace m2 := (hb.cell (p := ⟨nb, 2, none⟩) (block_lt_of_cell m2)).trans m2; replace k8 := (hb.cell (p := ⟨bk, _, none⟩) (block_lt_of_cell k8)).trans k8; replace z0 := (hb.cell (p := ⟨kb, 0, none⟩) (block_lt_of_cell z0)).trans z0; replace z1 := (hb.cell (p := ⟨kb, 1, none⟩) (block_lt_of_cell z1)).trans z1; have V6 := Lib.hid (V5.out.trans (hb.mono V5.out.size)); clear hb)
                    go_roundw
                    case rel => exact ⟨j + 1, by omega, by rw [← HT1.out, HT2.out], by go_num, V6.out, b0, b1, m0, by rw [HKAX.out]; exact m2⟩
                    case measure => simp [intOf]; omega
              · obtain rfl : j = KL / 2 := by omega
                have hltI : ¬ ((2 * (((KL / 2 : Nat)) : Int) + 1) < (KL : Int)) := by omega
                have ht3 : IntKind.i64.wrap (2 * (((KL / 2 : Nat)) : Int) + 1) = 2 * (((KL / 2 : Nat)) : Int) + 1 := IntWalk.i64_in _ ⟨by omega, by omega⟩
                have FT := Lib.hid (FI.out q.kind q.txt hqk.out HQ.out wr hv.out)
                rw [← HF3.out]
                rw [hA] at FT
                generalize findN g (k : Int) q.kind q.txt = fr at FT ⊢
                obtain ⟨f1, f2⟩ := fr
                cases f2 <;>
                (go_wp2_with (first | (go_at_call 17; (with_reducible refine FT.out.mono ?_); rintro e w6 ⟨rfl, hb⟩; replace hv := Lib.hid (hv.out.trans (hb.mono hv.out.size)); clear hb) | (go_at_call 8; (with_reducible refine (AL.out _ hv.out).mono ?_); rintro e wq ⟨rfl, hb⟩; replace hv := Lib.hid (hv.out.trans (hb.mono hv.out.size)); clear hb))
                 go_ret
                 exact ⟨rfl, hv.out⟩)
          · have h6I : (X.kind == 6) = false := by rw [beq_eq_false_iff_ne]; exact h6
            have HF3 : Hid ((findN g (k : Int) q.kind q.txt).2 = false) := by
              have h9 := HF2.out
              rw [decide_eq_false h6, Bool.false_and] at h9
              exact h9
            clear HF1 HF2 h6
            go_loopw [10, 11] (fun u v wr => u = .bool false ∧ v = .int .i64 (0 : Int) ∧ Hid (Below w.heap.size w wr) ∧ wr.cell? ⟨w.heap.size, 0, none⟩ = some (.slice (some ⟨b, off, none⟩) g.ns.length g.c) ∧ wr.cell? ⟨w.heap.size, 1, none⟩ = some (.int .i64 g.root) ∧ wr.cell? ⟨nb, 0, none⟩ = some (.int .i64 X.kind) ∧ wr.cell? ⟨nb, 2, none⟩ = some (.slice X.ka KL X.kc)) (fun _ _ _ => 0)
            case atStart => exact ⟨rfl, rfl, hv4.out, c0, c1, n0, n2⟩
            case round =>
              clear c0 c1 n0 n2 hv4
              obtain ⟨rfl, rfl, hv, a0, a1, n0, n2⟩ := hrel
              have FT := Lib.hid (FI.out q.kind q.txt hqk.out HQ.out wr hv.out)
              rw [hA] at FT
              generalize findN g (k : Int) q.kind q.txt = fr at FT HF3
              obtain ⟨f1, f2⟩ := fr
              obtain rfl : f2 = false := HF3.out
              by_cases hlt : 1 < KL
              · have hltI : (1 : Int) < (KL : Int) := by omega
                go_wp2_with (first | (go_at_call 17; (with_reducible refine FT.out.mono ?_); rintro e w6 ⟨rfl, hb⟩; replace hv := Lib.hid (hv.out.trans (hb.mono hv.out.size)); clear hb) | (go_at_call 8; (with_reducible refine (AL.out _ hv.out).mono ?_); rintro e wq ⟨rfl, hb⟩; replace hv := Lib.hid (hv.out.trans (hb.mono hv.out.size)); clear hb))
                go_ret
                exact ⟨rfl, hv.out⟩
              · have hltI : ¬ ((1 : Int) < (KL : Int)) := by omega
                go_wp2_with (first | (go_at_call 17; (with_reducible refine FT.out.mono ?_); rintro e w6 ⟨rfl, hb⟩; replace hv := Lib.hid (hv.out.trans (hb.mono hv.out.size)); clear hb) | (go_at_call 8; (with_reducible refine (AL.out _ hv.out).mono ?_); rintro e wq ⟨rfl, hb⟩; replace hv := Lib.hid (hv.out.trans (hb.mono hv.out.size)); clear hb))
                go_ret
                exact ⟨rfl, hv.out⟩
end Go.Proofs.YtpgncjfmaeiaaaaDoor.Is
