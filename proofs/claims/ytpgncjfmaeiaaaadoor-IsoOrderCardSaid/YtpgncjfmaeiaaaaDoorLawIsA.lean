/- IsoWithin: the walk. Conditions: the library's variables as they are laid. -/
import Derived.Test.YtpgncjfmaeiaaaaDoorIsAlive
import Derived.Test.YtpgncjfmaeiaaaaDoorIsOrdB
set_option linter.unusedVariables false
namespace Go.Proofs.YtpgncjfmaeiaaaaDoor.Is
open Go.RowKit
theorem weigh_mem {l : List Nd} {m : Nd} (h : m ∈ l) : min m.kids.length 500 + min m.txt.size 2000 ≤ weigh l := by
  induction l with
  | nil => cases h
  | cons x l ih =>
    have e : weigh (x :: l) = (min x.kids.length 500 + min x.txt.size 2000) + weigh l := by unfold weigh; rw [List.map_cons, List.sum_cons]
    rw [e]
    rcases List.mem_cons.1 h with h1 | h1
    · rw [h1]; omega
    · have := ih h1; omega
theorem small_of {l : List Nd} (h : largeN l = false) : SmallG l := by
  intro h4 m hm
  unfold largeN at h
  simp only [Bool.or_eq_false_iff, Bool.and_eq_false_iff, decide_eq_false_iff_not] at h
  have hl : l.length ≤ 60 := by rcases h.1 with h1 | h1 <;> omega
  have h2 := h.2
  rw [List.take_of_length_le hl] at h2
  have h3 := weigh_mem hm
  omega
theorem tellR_right {a b : Gv} {ord once : Bool} (ra : rightN a = true) (rb : rightN b = true) : (tellR a b ord once).1 = tellN a b ord once := by
  unfold tellR
  rw [if_pos ⟨ra, rb⟩]
set_option maxRecDepth 100000 in
set_option maxHeartbeats 6400000 in
theorem law_IsoWithin (w : World) (a b : Gv) (E : Env w) (Ga : GrIn w a) (Gb : GrIn w b) : Calls Tryd.prog 6 #[a.val, b.val] w (BoolPost true w) := by
  obtain ⟨hv, a0, a1, b0, b1⟩ := two_graphs w a b
  have LA : Hid (∀ V, Below w.heap.size w V → Calls Tryd.prog 7 #[.agg #[.slice a.A a.ns.length a.c, .int .i64 a.root]] V (BoolPost (largeN a.ns) V)) := fun V hV => (large_any V a (Ga.below hV)).mono fun e w' h => ⟨h.1, h.2.out⟩
  have LB : Hid (∀ V, Below w.heap.size w V → Calls Tryd.prog 7 #[.agg #[.slice b.A b.ns.length b.c, .int .i64 b.root]] V (BoolPost (largeN b.ns) V)) := fun V hV => (large_any V b (Gb.below hV)).mono fun e w' h => ⟨h.1, h.2.out⟩
  have RA : Hid (largeN a.ns = false → ∀ V, Below w.heap.size w V → Calls Tryd.prog 15 #[.agg #[.slice a.A a.ns.length a.c, .int .i64 a.root]] V (BoolPost (rightN a) V)) := fun h V hV => right_any a V (E.below hV) (Ga.below hV) (small_of h)
  have RB : Hid (largeN b.ns = false → ∀ V, Below w.heap.size w V → Calls Tryd.prog 15 #[.agg #[.slice b.A b.ns.length b.c, .int .i64 b.root]] V (BoolPost (rightN b) V)) := fun h V hV => right_any b V (E.below hV) (Gb.below hV) (small_of h)
  have AL : Hid (∀ V, Below w.heap.size w V → Calls Tryd.prog 8 #[] V (BoolPost true V)) := fun V hV => alive_any V (E.below hV)
  have ALL : Hid (largeN a.ns = false → largeN b.ns = false → ∀ V, Below w.heap.size w V → Calls Tryd.prog 16 #[.agg #[.slice a.A a.ns.length a.c, .int .i64 a.root], .agg #[.slice b.A b.ns.length b.c, .int .i64 b.root]] V (AllPost (tellR a b false false).1 (tellR a b false true).1 (tellR a b true true).1 V)) := fun h k V hV => all_any a b V (E.below hV) (Ga.below hV) (Gb.below hV) (small_of h) (small_of k)
  have OA : Hid (largeN a.ns = false → rightN a = true → ∀ V, Below w.heap.size w V → Calls Tryd.prog 18 #[.agg #[.slice a.A a.ns.length a.c, .int .i64 a.root]] V (OrderPost a V)) := fun h r V hV => order_any a V (E.below hV) (Ga.below hV) r (small_of h)
  have OB : Hid (largeN b.ns = false → rightN b = true → ∀ V, Below w.heap.size w V → Calls Tryd.prog 18 #[.agg #[.slice b.A b.ns.length b.c, .int .i64 b.root]] V (OrderPost b V)) := fun h r V hV => order_any b V (E.below hV) (Gb.below hV) r (small_of h)
  have HRQ : Hid (rightN a = true → rightN b = true → (tellR a b true true).1 = true → (tellR a b false true).1 = true) := fun ra rb h => by
    rw [tellR_right ra rb] at h ⊢
    exact (tell_iff ra rb).2 (iso_like ra rb ((tell_iff ra rb).1 h))
  have HQP : Hid (rightN a = true → rightN b = true → (tellR a b false true).1 = true → (tellR a b false false).1 = true) := fun ra rb h => by
    rw [tellR_right ra rb] at h ⊢
    exact (tell_iff ra rb).2 (like_equal ((tell_iff ra rb).1 h))
  have HLEN : Hid (rightN a = true → rightN b = true → (tellR a b false true).1 = true → (orderN a).length = (orderN b).length) := fun ra rb h => by
    rw [tellR_right ra rb] at h
    exact order_many ra rb h
  unfold Gv.val
  clear E Ga Gb
  unfold OrderPost at OA OB
  generalize (orderN a).length = na at OA HLEN
  generalize (orderN b).length = nb at OB HLEN
  generalize (tellR a b false false).1 = p at ALL HQP
  generalize (tellR a b false true).1 = q at ALL HQP HRQ HLEN
  generalize (tellR a b true true).1 = r at ALL HRQ
  generalize largeN a.ns = la at LA RA ALL OA
  generalize largeN b.ns = lb at LB RB ALL OB
  generalize rightN a = ra at RA OA HRQ HQP HLEN
  generalize rightN b = rb at RB OB HRQ HQP HLEN
  cases la with
  | true =>
    clear RA RB ALL OA OB HRQ HQP HLEN
    go_enter Tryd.func6, Tryd.ntmps6
    go_wp2_with (first | (go_at_call 7; (with_reducible refine (LA.out _ hv.out).mono ?_); rintro e wq ⟨rfl, hb⟩; replace a0 := (hb.cell (p := ⟨w.heap.size, 0, none⟩) (block_lt_of_cell a0)).trans a0; replace a1 := (hb.cell (p := ⟨w.heap.size, 1, none⟩) (block_lt_of_cell a1)).trans a1; replace b0 := (hb.cell (p := ⟨w.heap.size + 1, 0, none⟩) (block_lt_of_cell b0)).trans b0; replace b1 := (hb.cell (p := ⟨w.heap.size + 1, 1, none⟩) (block_lt_of_cell b1)).trans b1; replace hv := Lib.hid (hv.out.trans (hb.mono hv.out.size)); clear hb) | (go_at_call 8; (with_reducible refine (AL.out _ hv.out).mono ?_); rintro e wq ⟨rfl, hb⟩; replace hv := Lib.hid (hv.out.trans (hb.mono hv.out.size)); clear hb))
    go_ret
    exact ⟨rfl, hv.out⟩
  | false =>
    cases lb with
    | true =>
      clear RA RB ALL OA OB HRQ HQP HLEN
      go_enter Tryd.func6, Tryd.ntmps6
      go_wp2_with (first | (go_at_call 7; (with_reducible refine (LA.out _ hv.out).mono ?_); rintro e wq ⟨rfl, hb⟩; replace a0 := (hb.cell (p := ⟨w.heap.size, 0, none⟩) (block_lt_of_cell a0)).trans a0; replace a1 := (hb.cell (p := ⟨w.heap.size, 1, none⟩) (block_lt_of_cell a1)).trans a1; replace b0 := (hb.cell (p := ⟨w.heap.size + 1, 0, none⟩) (block_lt_of_cell b0)).trans b0; replace b1 := (hb.cell (p := ⟨w.heap.size + 1, 1, none⟩) (block_lt_of_cell b1)).trans b1; replace hv := Lib.hid (hv.out.trans (hb.mono hv.out.size)); clear hb) | (go_at_call 7; (with_reducible refine (LB.out _ hv.out).mono ?_); rintro e wq ⟨rfl, hb⟩; replace a0 := (hb.cell (p := ⟨w.heap.size, 0, none⟩) (block_lt_of_cell a0)).trans a0; replace a1 := (hb.cell (p := ⟨w.heap.size, 1, none⟩) (block_lt_of_cell a1)).trans a1; replace b0 := (hb.cell (p := ⟨w.heap.size + 1, 0, none⟩) (block_lt_of_cell b0)).trans b0; replace b1 := (hb.cell (p := ⟨w.heap.size + 1, 1, none⟩) (block_lt_of_cell b1)).trans b1; replace hv := Lib.hid (hv.out.trans (hb.mono hv.out.size)); clear hb) | (go_at_call 8; (with_reducible refine (AL.out _ hv.out).mono ?_); rintro e wq ⟨rfl, hb⟩; replace hv := Lib.hid (hv.out.trans (hb.mono hv.out.size)); clear hb))
      go_ret
      exact ⟨rfl, hv.out⟩
    | false =>
      replace RA := Lib.hid (RA.out rfl)
      replace RB := Lib.hid (RB.out rfl)
      cases ra with
      | false =>
        clear ALL OA OB HRQ HQP HLEN RB
        go_enter Tryd.func6, Tryd.ntmps6
        go_wp2_with (first | (go_at_call 7; (with_reducible refine (LA.out _ hv.out).mono ?_); rintro e wq ⟨rfl, hb⟩; replace a0 := (hb.cell (p := ⟨w.heap.size, 0, none⟩) (block_lt_of_cell a0)).trans a0; replace a1 := (hb.cell (p := ⟨w.heap.size, 1, none⟩) (block_lt_of_cell a1)).trans a1; replace b0 := (hb.cell (p := ⟨w.heap.size + 1, 0, none⟩) (block_lt_of_cell b0)).trans b0; replace b1 := (hb.cell (p := ⟨w.heap.size + 1, 1, none⟩) (block_lt_of_cell b1)).trans b1; replace hv := Lib.hid (hv.out.trans (hb.mono hv.out.size)); clear hb) | (go_at_call 7; (with_reducible refine (LB.out _ hv.out).mono ?_); rintro e wq ⟨rfl, hb⟩; replace a0 := (hb.cell (p := ⟨w.heap.size, 0, none⟩) (block_lt_of_cell a0)).trans a0; replace a1 := (hb.cell (p := ⟨w.heap.size, 1, none⟩) (block_lt_of_cell a1)).trans a1; replace b0 := (hb.cell (p := ⟨w.heap.size + 1, 0, none⟩) (block_lt_of_cell b0)).trans b0; replace b1 := (hb.cell (p := ⟨w.heap.size + 1, 1, none⟩) (block_lt_of_cell b1)).trans b1; replace hv := Lib.hid (hv.out.trans (hb.mono hv.out.size)); clear hb) | (go_at_call 15; (with_reducible refine (RA.out _ hv.out).mono ?_); rintro e wq ⟨rfl, hb⟩; replace a0 := (hb.cell (p := ⟨w.heap.size, 0, none⟩) (block_lt_of_cell a0)).trans a0; replace a1 := (hb.cell (p := ⟨w.heap.size, 1, none⟩) (block_lt_of_cell a1)).trans a1; replace b0 := (hb.cell (p := ⟨w.heap.size + 1, 0, none⟩) (block_lt_of_cell b0)).trans b0; replace b1 := (hb.cell (p := ⟨w.heap.size + 1, 1, none⟩) (block_lt_of_cell b1)).trans b1; replace hv := Lib.hid (hv.out.trans (hb.mono hv.out.size)); clear hb) | (go_at_call 8; (with_reducible refine (AL.out _ hv.out).mono ?_); rintro e wq ⟨rfl, hb⟩; replace hv := Lib.hid (hv.out.trans (hb.mono hv.out.size)); clear hb))
        go_ret
        exact ⟨rfl, hv.out⟩
      | true =>
        cases rb with
        | false =>
          clear ALL OA OB HRQ HQP HLEN
          go_enter Tryd.func6, Tryd.ntmps6
          go_wp2_with (first | (go_at_call 7; (with_reducible refine (LA.out _ hv.out).mono ?_); rintro e wq ⟨rfl, hb⟩; replace a0 := (hb.cell (p := ⟨w.heap.size, 0, none⟩) (block_lt_of_cell a0)).trans a0; replace a1 := (hb.cell (p := ⟨w.heap.size, 1, none⟩) (block_lt_of_cell a1)).trans a1; replace b0 := (hb.cell (p := ⟨w.heap.size + 1, 0, none⟩) (block_lt_of_cell b0)).trans b0; replace b1 := (hb.cell (p := ⟨w.heap.size + 1, 1, none⟩) (block_lt_of_cell b1)).trans b1; replace hv := Lib.hid (hv.out.trans (hb.mono hv.out.size)); clear hb) | (go_at_call 7; (with_reducible refine (LB.out _ hv.out).mono ?_); rintro e wq ⟨rfl, hb⟩; replace a0 := (hb.cell (p := ⟨w.heap.size, 0, none⟩) (block_lt_of_cell a0)).trans a0; replace a1 := (hb.cell (p := ⟨w.heap.size, 1, none⟩) (block_lt_of_cell a1)).trans a1; replace b0 := (hb.cell (p := ⟨w.heap.size + 1, 0, none⟩) (block_lt_of_cell b0)).trans b0; replace b1 := (hb.cell (p := ⟨w.heap.size + 1, 1, none⟩) (block_lt_of_cell b1)).trans b1; replace hv := Lib.hid (hv.out.trans (hb.mono hv.out.size)); clear hb) | (go_at_call 15; (with_reducible refine (RA.out _ hv.out).mono ?_); rintro e wq ⟨rfl, hb⟩; replace a0 := (hb.cell (p := ⟨w.heap.size, 0, none⟩) (block_lt_of_cell a0)).trans a0; replace a1 := (hb.cell (p := ⟨w.heap.size, 1, none⟩) (block_lt_of_cell a1)).trans a1; replace b0 := (hb.cell (p := ⟨w.heap.size + 1, 0, none⟩) (block_lt_of_cell b0)).trans b0; replace b1 := (hb.cell (p := ⟨w.heap.size + 1, 1, none⟩) (block_lt_of_cell b1)).trans b1; replace hv := Lib.hid (hv.out.trans (hb.mono hv.out.size)); clear hb) | (go_at_call 15; (with_reducible refine (RB.out _ hv.out).mono ?_); rintro e wq ⟨rfl, hb⟩; replace a0 := (hb.cell (p := ⟨w.heap.size, 0, none⟩) (block_lt_of_cell a0)).trans a0; replace a1 := (hb.cell (p := ⟨w.heap.size, 1, none⟩) (block_lt_of_cell a1)).trans a1; replace b0 := (hb.cell (p := ⟨w.heap.size + 1, 0, none⟩) (block_lt_of_cell b0)).trans b0; replace b1 := (hb.cell (p := ⟨w.heap.size + 1, 1, none⟩) (block_lt_of_cell b1)).trans b1; replace hv := Lib.hid (hv.out.trans (hb.mono hv.out.size)); clear hb) | (go_at_call 8; (with_reducible refine (AL.out _ hv.out).mono ?_); rintro e wq ⟨rfl, hb⟩; replace hv := Lib.hid (hv.out.trans (hb.mono hv.out.size)); clear hb))
          go_ret
          exact ⟨rfl, hv.out⟩
        | true =>
          replace ALL := Lib.hid (ALL.out rfl rfl)
          replace OA := Lib.hid (OA.out rfl rfl)
          replace OB := Lib.hid (OB.out rfl rfl)
          replace HRQ := Lib.hid (HRQ.out rfl rfl)
          replace HQP := Lib.hid (HQP.out rfl rfl)
          replace HLEN := Lib.hid (HLEN.out rfl rfl)
          cases p with
          | false =>
            cases q with
            | true => exact absurd (HQP.out (by trivial)) (by simp)
            | false =>
              cases r with
              | true => exact absurd (HRQ.out (by trivial)) (by simp)
              | false =>
                have hone : (#[Value.bool false, Value.bool false, Value.bool false]).all (·.oneCell') = true := by simp [Value.oneCell']
                go_enter Tryd.func6, Tryd.ntmps6
                go_wp2_with (first | (go_at_call 7; (with_reducible refine (LA.out _ hv.out).mono ?_); rintro e wq ⟨rfl, hb⟩; replace a0 := (hb.cell (p := ⟨w.heap.size, 0, none⟩) (block_lt_of_cell a0)).trans a0; replace a1 := (hb.cell (p := ⟨w.heap.size, 1, none⟩) (block_lt_of_cell a1)).trans a1; replace b0 := (hb.cell (p := ⟨w.heap.size + 1, 0, none⟩) (block_lt_of_cell b0)).trans b0; replace b1 := (hb.cell (p := ⟨w.heap.size + 1, 1, none⟩) (block_lt_of_cell b1)).trans b1; replace hv := Lib.hid (hv.out.trans (hb.mono hv.out.size)); clear hb) | (go_at_call 7; (with_reducible refine (LB.out _ hv.out).mono ?_); rintro e wq ⟨rfl, hb⟩; replace a0 := (hb.cell (p := ⟨w.heap.size, 0, none⟩) (block_lt_of_cell a0)).trans a0; replace a1 := (hb.cell (p := ⟨w.heap.size, 1, none⟩) (block_lt_of_cell a1)).trans a1; replace b0 := (hb.cell (p := ⟨w.heap.size + 1, 0, none⟩) (block_lt_of_cell b0)).trans b0; replace b1 := (hb.cell (p := ⟨w.heap.size + 1, 1, none⟩) (block_lt_of_cell b1)).trans b1; replace hv := Lib.hid (hv.out.trans (hb.mono hv.out.size)); clear hb) | (go_at_call 15; (with_reducible refine (RA.out _ hv.out).mono ?_); rintro e wq ⟨rfl, hb⟩; replace a0 := (hb.cell (p := ⟨w.heap.size, 0, none⟩) (block_lt_of_cell a0)).trans a0; replace a1 := (hb.cell (p := ⟨w.heap.size, 1, none⟩) (block_lt_of_cell a1)).trans a1; replace b0 := (hb.cell (p := ⟨w.heap.size + 1, 0, none⟩) (block_lt_of_cell b0)).trans b0; replace b1 := (hb.cell (p := ⟨w.heap.size + 1, 1, none⟩) (block_lt_of_cell b1)).trans b1; replace hv := Lib.hid (hv.out.trans (hb.mono hv.out.size)); clear hb) | (go_at_call 15; (with_reducible refine (RB.out _ hv.out).mono ?_); rintro e wq ⟨rfl, hb⟩; replace a0 := (hb.cell (p := ⟨w.heap.size, 0, none⟩) (block_lt_of_cell a0)).trans a0; replace a1 := (hb.cell (p := ⟨w.heap.size, 1, none⟩) (block_lt_of_cell a1)).trans a1; replace b0 := (hb.cell (p := ⟨w.heap.size + 1, 0, none⟩) (block_lt_of_cell b0)).trans b0; replace b1 := (hb.cell (p := ⟨w.heap.size + 1, 1, none⟩) (block_lt_of_cell b1)).trans b1; replace hv := Lib.hid (hv.out.trans (hb.mono hv.out.size)); clear hb))
                with_reducible refine (ALL.out _ hv.out).mono ?_
                rintro e w5 ⟨rfl, hb⟩
                replace hv := Lib.hid (hv.out.trans (hb.mono hv.out.size))
                replace a0 := (hb.cell (p := ⟨w.heap.size, 0, none⟩) (block_lt_of_cell a0)).trans a0
                replace a1 := (hb.cell (p := ⟨w.heap.size, 1, none⟩) (block_lt_of_cell a1)).trans a1
                replace b0 := (hb.cell (p := ⟨w.heap.size + 1, 0, none⟩) (block_lt_of_cell b0)).trans b0
                replace b1 := (hb.cell (p := ⟨w.heap.size + 1, 1, none⟩) (block_lt_of_cell b1)).trans b1
                clear hb LA LB RA RB ALL
                have HR0 := Lib.hid (Kept.first w5 33 #[.bool false, .bool false, .bool false])
                have HR1 := Lib.hid (HR0.out.set #[.bool false, .bool false, .bool false])
                have l0 := HR1.out.cell 0
                have l1 := HR1.out.cell 1
                have l2 := HR1.out.cell 2
                replace a0 := (HR1.out.2.cell (p := ⟨w.heap.size, 0, none⟩) (block_lt_of_cell a0)).trans a0
                replace a1 := (HR1.out.2.cell (p := ⟨w.heap.size, 1, none⟩) (block_lt_of_cell a1)).trans a1
                replace b0 := (HR1.out.2.cell (p := ⟨w.heap.size + 1, 0, none⟩) (block_lt_of_cell b0)).trans b0
                replace b1 := (HR1.out.2.cell (p := ⟨w.heap.size + 1, 1, none⟩) (block_lt_of_cell b1)).trans b1
                have hv6 : Hid (Below w.heap.size w ((w5.alloc (.cells #[.bool false, .bool false, .bool false] 33)).setRow w5.heap.size #[.bool false, .bool false, .bool false])) := hv.out.trans (HR1.out.2.mono hv.out.size)
                go_wp2_with (refine wpList_store_row rfl 33 _ _ rfl w5.heap.size #[.bool false, .bool false, .bool false] rfl rfl 33 _ HR0.out.1 (by kernel_rfl) rfl hone ?_)
                generalize w5.heap.size = blk at l0 l1 l2 a0 a1 b0 b1 hv6 ⊢
                generalize ((w5.alloc (.cells #[.bool false, .bool false, .bool false] 33)).setRow blk #[.bool false, .bool false, .bool false]) = w6 at l0 l1 l2 a0 a1 b0 b1 hv6 ⊢
                clear HR0 HR1 hv
                replace hv := hv6
                go_wp2_with (first | (go_at_call 18; (with_reducible refine (OA.out _ hv.out).mono ?_); rintro e wq ⟨A1, c1, rfl, hb⟩; replace a0 := (hb.cell (p := ⟨w.heap.size, 0, none⟩) (block_lt_of_cell a0)).trans a0; replace a1 := (hb.cell (p := ⟨w.heap.size, 1, none⟩) (block_lt_of_cell a1)).trans a1; replace b0 := (hb.cell (p := ⟨w.heap.size + 1, 0, none⟩) (block_lt_of_cell b0)).trans b0; replace b1 := (hb.cell (p := ⟨w.heap.size + 1, 1, none⟩) (block_lt_of_cell b1)).trans b1; replace l0 := (hb.cell (p := ⟨blk, 0, none⟩) (block_lt_of_cell l0)).trans l0; replace l1 := (hb.cell (p := ⟨blk, 1, none⟩) (block_lt_of_cell l1)).trans l1; replace l2 := (hb.cell (p := ⟨blk, 2, none⟩) (block_lt_of_cell l2)).trans l2; replace hv := Lib.hid (hv.out.trans (hb.mono hv.out.size)); clear hb) | (go_at_call 18; (with_reducible refine (OB.out _ hv.out).mono ?_); rintro e wq ⟨A2, c2, rfl, hb⟩; replace a0 := (hb.cell (p := ⟨w.heap.size, 0, none⟩) (block_lt_of_cell a0)).trans a0; replace a1 := (hb.cell (p := ⟨w.heap.size, 1, none⟩) (block_lt_of_cell a1)).trans a1; replace b0 := (hb.cell (p := ⟨w.heap.size + 1, 0, none⟩) (block_lt_of_cell b0)).trans b0; replace b1 := (hb.cell (p := ⟨w.heap.size + 1, 1, none⟩) (block_lt_of_cell b1)).trans b1; replace l0 := (hb.cell (p := ⟨blk, 0, none⟩) (block_lt_of_cell l0)).trans l0; replace l1 := (hb.cell (p := ⟨blk, 1, none⟩) (block_lt_of_cell l1)).trans l1; replace l2 := (hb.cell (p := ⟨blk, 2, none⟩) (block_lt_of_cell l2)).trans l2; replace hv := Lib.hid (hv.out.trans (hb.mono hv.out.size)); clear hb))
                with_reducible refine (AL.out _ hv.out).mono ?_
                rintro e w9 ⟨rfl, hb⟩
                replace hv := Lib.hid (hv.out.trans (hb.mono hv.out.size))
                clear hb
                go_wp2_with fail
                go_ret
                exact ⟨rfl, hv.out⟩
          | true =>
            cases q with
            | false =>
              cases r with
              | true => exact absurd (HRQ.out (by trivial)) (by simp)
              | false =>
                have hone : (#[Value.bool true, Value.bool false, Value.bool false]).all (·.oneCell') = true := by simp [Value.oneCell']
                go_enter Tryd.func6, Tryd.ntmps6
                go_wp2_with (first | (go_at_call 7; (with_reducible refine (LA.out _ hv.out).mono ?_); rintro e wq ⟨rfl, hb⟩; replace a0 := (hb.cell (p := ⟨w.heap.size, 0, none⟩) (block_lt_of_cell a0)).trans a0; replace a1 := (hb.cell (p := ⟨w.heap.size, 1, none⟩) (block_lt_of_cell a1)).trans a1; replace b0 := (hb.cell (p := ⟨w.heap.size + 1, 0, none⟩) (block_lt_of_cell b0)).trans b0; replace b1 := (hb.cell (p := ⟨w.heap.size + 1, 1, none⟩) (block_lt_of_cell b1)).trans b1; replace hv := Lib.hid (hv.out.trans (hb.mono hv.out.size)); clear hb) | (go_at_call 7; (with_reducible refine (LB.out _ hv.out).mono ?_); rintro e wq ⟨rfl, hb⟩; replace a0 := (hb.cell (p := ⟨w.heap.size, 0, none⟩) (block_lt_of_cell a0)).trans a0; replace a1 := (hb.cell (p := ⟨w.heap.size, 1, none⟩) (block_lt_of_cell a1)).trans a1; replace b0 := (hb.cell (p := ⟨w.heap.size + 1, 0, none⟩) (block_lt_of_cell b0)).trans b0; replace b1 := (hb.cell (p := ⟨w.heap.size + 1, 1, none⟩) (block_lt_of_cell b1)).trans b1; replace hv := Lib.hid (hv.out.trans (hb.mono hv.out.size)); clear hb) | (go_at_call 15; (with_reducible refine (RA.out _ hv.out).mono ?_); rintro e wq ⟨rfl, hb⟩; replace a0 := (hb.cell (p := ⟨w.heap.size, 0, none⟩) (block_lt_of_cell a0)).trans a0; replace a1 := (hb.cell (p := ⟨w.heap.size, 1, none⟩) (block_lt_of_cell a1)).trans a1; replace b0 := (hb.cell (p := ⟨w.heap.size + 1, 0, none⟩) (block_lt_of_cell b0)).trans b0; replace b1 := (hb.cell (p := ⟨w.heap.size + 1, 1, none⟩) (block_lt_of_cell b1)).trans b1; replace hv := Lib.hid (hv.out.trans (hb.mono hv.out.size)); clear hb) | (go_at_call 15; (with_reducible refine (RB.out _ hv.out).mono ?_); rintro e wq ⟨rfl, hb⟩; replace a0 := (hb.cell (p := ⟨w.heap.size, 0, none⟩) (block_lt_of_cell a0)).trans a0; replace a1 := (hb.cell (p := ⟨w.heap.size, 1, none⟩) (block_lt_of_cell a1)).trans a1; replace b0 := (hb.cell (p := ⟨w.heap.size + 1, 0, none⟩) (block_lt_of_cell b0)).trans b0; replace b1 := (hb.cell (p := ⟨w.heap.size + 1, 1, none⟩) (block_lt_of_cell b1)).trans b1; replace hv := Lib.hid (hv.out.trans (hb.mono hv.out.size)); clear hb))
                with_reducible refine (ALL.out _ hv.out).mono ?_
                rintro e w5 ⟨rfl, hb⟩
                replace hv := Lib.hid (hv.out.trans (hb.mono hv.out.size))
                replace a0 := (hb.cell (p := ⟨w.heap.size, 0, none⟩) (block_lt_of_cell a0)).trans a0
                replace a1 := (hb.cell (p := ⟨w.heap.size, 1, none⟩) (block_lt_of_cell a1)).trans a1
                replace b0 := (hb.cell (p := ⟨w.heap.size + 1, 0, none⟩) (block_lt_of_cell b0)).trans b0
                replace b1 := (hb.cell (p := ⟨w.heap.size + 1, 1, none⟩) (block_lt_of_cell b1)).trans b1
                clear hb LA LB RA RB ALL
                have HR0 := Lib.hid (Kept.first w5 33 #[.bool false, .bool false, .bool false])
                have HR1 := Lib.hid (HR0.out.set #[.bool true, .bool false, .bool false])
                have l0 := HR1.out.cell 0
                have l1 := HR1.out.cell 1
                have l2 := HR1.out.cell 2
                replace a0 := (HR1.out.2.cell (p := ⟨w.heap.size, 0, none⟩) (block_lt_of_cell a0)).trans a0
                replace a1 := (HR1.out.2.cell (p := ⟨w.heap.size, 1, none⟩) (block_lt_of_cell a1)).trans a1
                replace b0 := (HR1.out.2.cell (p := ⟨w.heap.size + 1, 0, none⟩) (block_lt_of_cell b0)).trans b0
                replace b1 := (HR1.out.2.cell (p := ⟨w.heap.size + 1, 1, none⟩) (block_lt_of_cell b1)).trans b1
                have hv6 : Hid (Below w.heap.size w ((w5.alloc (.cells #[.bool false, .bool false, .bool false] 33)).setRow w5.heap.size #[.bool true, .bool false, .bool false])) := hv.out.trans (HR1.out.2.mono hv.out.size)
                go_wp2_with (refine wpList_store_row rfl 33 _ _ rfl w5.heap.size #[.bool true, .bool false, .bool false] rfl rfl 33 _ HR0.out.1 (by kernel_rfl) rfl hone ?_)
                generalize w5.heap.size = blk at l0 l1 l2 a0 a1 b0 b1 hv6 ⊢
                generalize ((w5.alloc (.cells #[.bool false, .bool false, .bool false] 33)).setRow blk #[.bool true, .bool false, .bool false]) = w6 at l0 l1 l2 a0 a1 b0 b1 hv6 ⊢
                clear HR0 HR1 hv
                replace hv := hv6
                go_wp2_with (first | (go_at_call 18; (with_reducible refine (OA.out _ hv.out).mono ?_); rintro e wq ⟨A1, c1, rfl, hb⟩; replace a0 := (hb.cell (p := ⟨w.heap.size, 0, none⟩) (block_lt_of_cell a0)).trans a0; replace a1 := (hb.cell (p := ⟨w.heap.size, 1, none⟩) (block_lt_of_cell a1)).trans a1; replace b0 := (hb.cell (p := ⟨w.heap.size + 1, 0, none⟩) (block_lt_of_cell b0)).trans b0; replace b1 := (hb.cell (p := ⟨w.heap.size + 1, 1, none⟩) (block_lt_of_cell b1)).trans b1; replace l0 := (hb.cell (p := ⟨blk, 0, none⟩) (block_lt_of_cell l0)).trans l0; replace l1 := (hb.cell (p := ⟨blk, 1, none⟩) (block_lt_of_cell l1)).trans l1; replace l2 := (hb.cell (p := ⟨blk, 2, none⟩) (block_lt_of_cell l2)).trans l2; replace hv := Lib.hid (hv.out.trans (hb.mono hv.out.size)); clear hb) | (go_at_call 18; (with_reducible refine (OB.out _ hv.out).mono ?_); rintro e wq ⟨A2, c2, rfl, hb⟩; replace a0 := (hb.cell (p := ⟨w.heap.size, 0, none⟩) (block_lt_of_cell a0)).trans a0; replace a1 := (hb.cell (p := ⟨w.heap.size, 1, none⟩) (block_lt_of_cell a1)).trans a1; replace b0 := (hb.cell (p := ⟨w.heap.size + 1, 0, none⟩) (block_lt_of_cell b0)).trans b0; replace b1 := (hb.cell (p := ⟨w.heap.size + 1, 1, none⟩) (block_lt_of_cell b1)).trans b1; replace l0 := (hb.cell (p := ⟨blk, 0, none⟩) (block_lt_of_cell l0)).trans l0; replace l1 := (hb.cell (p := ⟨blk, 1, none⟩) (block_lt_of_cell l1)).trans l1; replace l2 := (hb.cell (p := ⟨blk, 2, none⟩) (block_lt_of_cell l2)).trans l2; replace hv := Lib.hid (hv.out.trans (hb.mono hv.out.size)); clear hb))
                with_reducible refine (AL.out _ hv.out).mono ?_
                rintro e w9 ⟨rfl, hb⟩
                replace hv := Lib.hid (hv.out.trans (hb.mono hv.out.size))
                clear hb
                go_wp2_with fail
                go_ret
                exact ⟨rfl, hv.out⟩
            | true =>
              cases r with
              | false =>
                obtain rfl := HLEN.out (by trivial)
                have hone : (#[Value.bool true, Value.bool true, Value.bool false]).all (·.oneCell') = true := by simp [Value.oneCell']
                go_enter Tryd.func6, Tryd.ntmps6
                go_wp2_with (first | (go_at_call 7; (with_reducible refine (LA.out _ hv.out).mono ?_); rintro e wq ⟨rfl, hb⟩; replace a0 := (hb.cell (p := ⟨w.heap.size, 0, none⟩) (block_lt_of_cell a0)).trans a0; replace a1 := (hb.cell (p := ⟨w.heap.size, 1, none⟩) (block_lt_of_cell a1)).trans a1; replace b0 := (hb.cell (p := ⟨w.heap.size + 1, 0, none⟩) (block_lt_of_cell b0)).trans b0; replace b1 := (hb.cell (p := ⟨w.heap.size + 1, 1, none⟩) (block_lt_of_cell b1)).trans b1; replace hv := Lib.hid (hv.out.trans (hb.mono hv.out.size)); clear hb) | (go_at_call 7; (with_reducible refine (LB.out _ hv.out).mono ?_); rintro e wq ⟨rfl, hb⟩; replace a0 := (hb.cell (p := ⟨w.heap.size, 0, none⟩) (block_lt_of_cell a0)).trans a0; replace a1 := (hb.cell (p := ⟨w.heap.size, 1, none⟩) (block_lt_of_cell a1)).trans a1; replace b0 := (hb.cell (p := ⟨w.heap.size + 1, 0, none⟩) (block_lt_of_cell b0)).trans b0; replace b1 := (hb.cell (p := ⟨w.heap.size + 1, 1, none⟩) (block_lt_of_cell b1)).trans b1; replace hv := Lib.hid (hv.out.trans (hb.mono hv.out.size)); clear hb) | (go_at_call 15; (with_reducible refine (RA.out _ hv.out).mono ?_); rintro e wq ⟨rfl, hb⟩; replace a0 := (hb.cell (p := ⟨w.heap.size, 0, none⟩) (block_lt_of_cell a0)).trans a0; replace a1 := (hb.cell (p := ⟨w.heap.size, 1, none⟩) (block_lt_of_cell a1)).trans a1; replace b0 := (hb.cell (p := ⟨w.heap.size + 1, 0, none⟩) (block_lt_of_cell b0)).trans b0; replace b1 := (hb.cell (p := ⟨w.heap.size + 1, 1, none⟩) (block_lt_of_cell b1)).trans b1; replace hv := Lib.hid (hv.out.trans (hb.mono hv.out.size)); clear hb) | (go_at_call 15; (with_reducible refine (RB.out _ hv.out).mono ?_); rintro e wq ⟨rfl, hb⟩; replace a0 := (hb.cell (p := ⟨w.heap.size, 0, none⟩) (block_lt_of_cell a0)).trans a0; replace a1 := (hb.cell (p := ⟨w.heap.size, 1, none⟩) (block_lt_of_cell a1)).trans a1; replace b0 := (hb.cell (p := ⟨w.heap.size + 1, 0, none⟩) (block_lt_of_cell b0)).trans b0; replace b1 := (hb.cell (p := ⟨w.heap.size + 1, 1, none⟩) (block_lt_of_cell b1)).trans b1; replace hv := Lib.hid (hv.out.trans (hb.mono hv.out.size)); clear hb))
                with_reducible refine (ALL.out _ hv.out).mono ?_
                rintro e w5 ⟨rfl, hb⟩
                replace hv := Lib.hid (hv.out.trans (hb.mono hv.out.size))
                replace a0 := (hb.cell (p := ⟨w.heap.size, 0, none⟩) (block_lt_of_cell a0)).trans a0
                replace a1 := (hb.cell (p := ⟨w.heap.size, 1, none⟩) (block_lt_of_cell a1)).trans a1
                replace b0 := (hb.cell (p := ⟨w.heap.size + 1, 0, none⟩) (block_lt_of_cell b0)).trans b0
                replace b1 := (hb.cell (p := ⟨w.heap.size + 1, 1, none⟩) (block_lt_of_cell b1)).trans b1
                clear hb LA LB RA RB ALL
                have HR0 := Lib.hid (Kept.first w5 33 #[.bool false, .bool false, .bool false])
                have HR1 := Lib.hid (HR0.out.set #[.bool true, .bool true, .bool false])
                have l0 := HR1.out.cell 0
                have l1 := HR1.out.cell 1
                have l2 := HR1.out.cell 2
                replace a0 := (HR1.out.2.cell (p := ⟨w.heap.size, 0, none⟩) (block_lt_of_cell a0)).trans a0
                replace a1 := (HR1.out.2.cell (p := ⟨w.heap.size, 1, none⟩) (block_lt_of_cell a1)).trans a1
                replace b0 := (HR1.out.2.cell (p := ⟨w.heap.size + 1, 0, none⟩) (block_lt_of_cell b0)).trans b0
                replace b1 := (HR1.out.2.cell (p := ⟨w.heap.size + 1, 1, none⟩) (block_lt_of_cell b1)).trans b1
                have hv6 : Hid (Below w.heap.size w ((w5.alloc (.cells #[.bool false, .bool false, .bool false] 33)).setRow w5.heap.size #[.bool true, .bool true, .bool false])) := hv.out.trans (HR1.out.2.mono hv.out.size)
                go_wp2_with (refine wpList_store_row rfl 33 _ _ rfl w5.heap.size #[.bool true, .bool true, .bool false] rfl rfl 33 _ HR0.out.1 (by kernel_rfl) rfl hone ?_)
                generalize w5.heap.size = blk at l0 l1 l2 a0 a1 b0 b1 hv6 ⊢
                generalize ((w5.alloc (.cells #[.bool false, .bool false, .bool false] 33)).setRow blk #[.bool true, .bool true, .bool false]) = w6 at l0 l1 l2 a0 a1 b0 b1 hv6 ⊢
                clear HR0 HR1 hv
                replace hv := hv6
                go_wp2_with (first | (go_at_call 18; (with_reducible refine (OA.out _ hv.out).mono ?_); rintro e wq ⟨A1, c1, rfl, hb⟩; replace a0 := (hb.cell (p := ⟨w.heap.size, 0, none⟩) (block_lt_of_cell a0)).trans a0; replace a1 := (hb.cell (p := ⟨w.heap.size, 1, none⟩) (block_lt_of_cell a1)).trans a1; replace b0 := (hb.cell (p := ⟨w.heap.size + 1, 0, none⟩) (block_lt_of_cell b0)).trans b0; replace b1 := (hb.cell (p := ⟨w.heap.size + 1, 1, none⟩) (block_lt_of_cell b1)).trans b1; replace l0 := (hb.cell (p := ⟨blk, 0, none⟩) (block_lt_of_cell l0)).trans l0; replace l1 := (hb.cell (p := ⟨blk, 1, none⟩) (block_lt_of_cell l1)).trans l1; replace l2 := (hb.cell (p := ⟨blk, 2, none⟩) (block_lt_of_cell l2)).trans l2; replace hv := Lib.hid (hv.out.trans (hb.mono hv.out.size)); clear hb) | (go_at_call 18; (with_reducible refine (OB.out _ hv.out).mono ?_); rintro e wq ⟨A2, c2, rfl, hb⟩; replace a0 := (hb.cell (p := ⟨w.heap.size, 0, none⟩) (block_lt_of_cell a0)).trans a0; replace a1 := (hb.cell (p := ⟨w.heap.size, 1, none⟩) (block_lt_of_cell a1)).trans a1; replace b0 := (hb.cell (p := ⟨w.heap.size + 1, 0, none⟩) (block_lt_of_cell b0)).trans b0; replace b1 := (hb.cell (p := ⟨w.heap.size + 1, 1, none⟩) (block_lt_of_cell b1)).trans b1; replace l0 := (hb.cell (p := ⟨blk, 0, none⟩) (block_lt_of_cell l0)).trans l0; replace l1 := (hb.cell (p := ⟨blk, 1, none⟩) (block_lt_of_cell l1)).trans l1; replace l2 := (hb.cell (p := ⟨blk, 2, none⟩) (block_lt_of_cell l2)).trans l2; replace hv := Lib.hid (hv.out.trans (hb.mono hv.out.size)); clear hb))
                with_reducible refine (AL.out _ hv.out).mono ?_
                rintro e w9 ⟨rfl, hb⟩
                replace hv := Lib.hid (hv.out.trans (hb.mono hv.out.size))
                clear hb
                go_wp2_with fail
                go_ret
                exact ⟨rfl, hv.out⟩
              | true =>
                obtain rfl := HLEN.out (by trivial)
                have hone : (#[Value.bool true, Value.bool true, Value.bool true]).all (·.oneCell') = true := by simp [Value.oneCell']
                go_enter Tryd.func6, Tryd.ntmps6
                go_wp2_with (first | (go_at_call 7; (with_reducible refine (LA.out _ hv.out).mono ?_); rintro e wq ⟨rfl, hb⟩; replace a0 := (hb.cell (p := ⟨w.heap.size, 0, none⟩) (block_lt_of_cell a0)).trans a0; replace a1 := (hb.cell (p := ⟨w.heap.size, 1, none⟩) (block_lt_of_cell a1)).trans a1; replace b0 := (hb.cell (p := ⟨w.heap.size + 1, 0, none⟩) (block_lt_of_cell b0)).trans b0; replace b1 := (hb.cell (p := ⟨w.heap.size + 1, 1, none⟩) (block_lt_of_cell b1)).trans b1; replace hv := Lib.hid (hv.out.trans (hb.mono hv.out.size)); clear hb) | (go_at_call 7; (with_reducible refine (LB.out _ hv.out).mono ?_); rintro e wq ⟨rfl, hb⟩; replace a0 := (hb.cell (p := ⟨w.heap.size, 0, none⟩) (block_lt_of_cell a0)).trans a0; replace a1 := (hb.cell (p := ⟨w.heap.size, 1, none⟩) (block_lt_of_cell a1)).trans a1; replace b0 := (hb.cell (p := ⟨w.heap.size + 1, 0, none⟩) (block_lt_of_cell b0)).trans b0; replace b1 := (hb.cell (p := ⟨w.heap.size + 1, 1, none⟩) (block_lt_of_cell b1)).trans b1; replace hv := Lib.hid (hv.out.trans (hb.mono hv.out.size)); clear hb) | (go_at_call 15; (with_reducible refine (RA.out _ hv.out).mono ?_); rintro e wq ⟨rfl, hb⟩; replace a0 := (hb.cell (p := ⟨w.heap.size, 0, none⟩) (block_lt_of_cell a0)).trans a0; replace a1 := (hb.cell (p := ⟨w.heap.size, 1, none⟩) (block_lt_of_cell a1)).trans a1; replace b0 := (hb.cell (p := ⟨w.heap.size + 1, 0, none⟩) (block_lt_of_cell b0)).trans b0; replace b1 := (hb.cell (p := ⟨w.heap.size + 1, 1, none⟩) (block_lt_of_cell b1)).trans b1; replace hv := Lib.hid (hv.out.trans (hb.mono hv.out.size)); clear hb) | (go_at_call 15; (with_reducible refine (RB.out _ hv.out).mono ?_); rintro e wq ⟨rfl, hb⟩; replace a0 := (hb.cell (p := ⟨w.heap.size, 0, none⟩) (block_lt_of_cell a0)).trans a0; replace a1 := (hb.cell (p := ⟨w.heap.size, 1, none⟩) (block_lt_of_cell a1)).trans a1; replace b0 := (hb.cell (p := ⟨w.heap.size + 1, 0, none⟩) (block_lt_of_cell b0)).trans b0; replace b1 := (hb.cell (p := ⟨w.heap.size + 1, 1, none⟩) (block_lt_of_cell b1)).trans b1; replace hv := Lib.hid (hv.out.trans (hb.mono hv.out.size)); clear hb))
                with_reducible refine (ALL.out _ hv.out).mono ?_
                rintro e w5 ⟨rfl, hb⟩
                replace hv := Lib.hid (hv.out.trans (hb.mono hv.out.size))
                replace a0 := (hb.cell (p := ⟨w.heap.size, 0, none⟩) (block_lt_of_cell a0)).trans a0
                replace a1 := (hb.cell (p := ⟨w.heap.size, 1, none⟩) (block_lt_of_cell a1)).trans a1
                replace b0 := (hb.cell (p := ⟨w.heap.size + 1, 0, none⟩) (block_lt_of_cell b0)).trans b0
                replace b1 := (hb.cell (p := ⟨w.heap.size + 1, 1, none⟩) (block_lt_of_cell b1)).trans b1
                clear hb LA LB RA RB ALL
                have HR0 := Lib.hid (Kept.first w5 33 #[.bool false, .bool false, .bool false])
                have HR1 := Lib.hid (HR0.out.set #[.bool true, .bool true, .bool true])
                have l0 := HR1.out.cell 0
                have l1 := HR1.out.cell 1
                have l2 := HR1.out.cell 2
                replace a0 := (HR1.out.2.cell (p := ⟨w.heap.size, 0, none⟩) (block_lt_of_cell a0)).trans a0
                replace a1 := (HR1.out.2.cell (p := ⟨w.heap.size, 1, none⟩) (block_lt_of_cell a1)).trans a1
                replace b0 := (HR1.out.2.cell (p := ⟨w.heap.size + 1, 0, none⟩) (block_lt_of_cell b0)).trans b0
                replace b1 := (HR1.out.2.cell (p := ⟨w.heap.size + 1, 1, none⟩) (block_lt_of_cell b1)).trans b1
                have hv6 : Hid (Below w.heap.size w ((w5.alloc (.cells #[.bool false, .bool false, .bool false] 33)).setRow w5.heap.size #[.bool true, .bool true, .bool true])) := hv.out.trans (HR1.out.2.mono hv.out.size)
                go_wp2_with (refine wpList_store_row rfl 33 _ _ rfl w5.heap.size #[.bool true, .bool true, .bool true] rfl rfl 33 _ HR0.out.1 (by kernel_rfl) rfl hone ?_)
                generalize w5.heap.size = blk at l0 l1 l2 a0 a1 b0 b1 hv6 ⊢
                generalize ((w5.alloc (.cells #[.bool false, .bool false, .bool false] 33)).setRow blk #[.bool true, .bool true, .bool true]) = w6 at l0 l1 l2 a0 a1 b0 b1 hv6 ⊢
                clear HR0 HR1 hv
                replace hv := hv6
                go_wp2_with (first | (go_at_call 18; (with_reducible refine (OA.out _ hv.out).mono ?_); rintro e wq ⟨A1, c1, rfl, hb⟩; replace a0 := (hb.cell (p := ⟨w.heap.size, 0, none⟩) (block_lt_of_cell a0)).trans a0; replace a1 := (hb.cell (p := ⟨w.heap.size, 1, none⟩) (block_lt_of_cell a1)).trans a1; replace b0 := (hb.cell (p := ⟨w.heap.size + 1, 0, none⟩) (block_lt_of_cell b0)).trans b0; replace b1 := (hb.cell (p := ⟨w.heap.size + 1, 1, none⟩) (block_lt_of_cell b1)).trans b1; replace l0 := (hb.cell (p := ⟨blk, 0, none⟩) (block_lt_of_cell l0)).trans l0; replace l1 := (hb.cell (p := ⟨blk, 1, none⟩) (block_lt_of_cell l1)).trans l1; replace l2 := (hb.cell (p := ⟨blk, 2, none⟩) (block_lt_of_cell l2)).trans l2; replace hv := Lib.hid (hv.out.trans (hb.mono hv.out.size)); clear hb) | (go_at_call 18; (with_reducible refine (OB.out _ hv.out).mono ?_); rintro e wq ⟨A2, c2, rfl, hb⟩; replace a0 := (hb.cell (p := ⟨w.heap.size, 0, none⟩) (block_lt_of_cell a0)).trans a0; replace a1 := (hb.cell (p := ⟨w.heap.size, 1, none⟩) (block_lt_of_cell a1)).trans a1; replace b0 := (hb.cell (p := ⟨w.heap.size + 1, 0, none⟩) (block_lt_of_cell b0)).trans b0; replace b1 := (hb.cell (p := ⟨w.heap.size + 1, 1, none⟩) (block_lt_of_cell b1)).trans b1; replace l0 := (hb.cell (p := ⟨blk, 0, none⟩) (block_lt_of_cell l0)).trans l0; replace l1 := (hb.cell (p := ⟨blk, 1, none⟩) (block_lt_of_cell l1)).trans l1; replace l2 := (hb.cell (p := ⟨blk, 2, none⟩) (block_lt_of_cell l2)).trans l2; replace hv := Lib.hid (hv.out.trans (hb.mono hv.out.size)); clear hb))
                with_reducible refine (AL.out _ hv.out).mono ?_
                rintro e w9 ⟨rfl, hb⟩
                replace hv := Lib.hid (hv.out.trans (hb.mono hv.out.size))
                clear hb
                go_wp2_with fail
                go_ret
                exact ⟨rfl, hv.out⟩
end Go.Proofs.YtpgncjfmaeiaaaaDoor.Is
