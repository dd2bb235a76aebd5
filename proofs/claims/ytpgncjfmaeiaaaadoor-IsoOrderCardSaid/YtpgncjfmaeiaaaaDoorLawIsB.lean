/- IsoOrder: the walk. Conditions: the library's variables as they are laid. -/
import Derived.Test.YtpgncjfmaeiaaaaDoorLawIsA
import Derived.Test.YtpgncjfmaeiaaaaDoorIsTab
set_option linter.unusedVariables false
namespace Go.Proofs.YtpgncjfmaeiaaaaDoor.Is
open Go.RowKit
theorem three_graphs (w : World) (a b c : Gv) : Hid (Below w.heap.size w (((w.alloc (.cells #[.slice a.A a.ns.length a.c, .int .i64 a.root] 24)).alloc (.cells #[.slice b.A b.ns.length b.c, .int .i64 b.root] 24)).alloc (.cells #[.slice c.A c.ns.length c.c, .int .i64 c.root] 24))) ∧ (((w.alloc (.cells #[.slice a.A a.ns.length a.c, .int .i64 a.root] 24)).alloc (.cells #[.slice b.A b.ns.length b.c, .int .i64 b.root] 24)).alloc (.cells #[.slice c.A c.ns.length c.c, .int .i64 c.root] 24)).cell? ⟨w.heap.size, 0, none⟩ = some (.slice a.A a.ns.length a.c) ∧ (((w.alloc (.cells #[.slice a.A a.ns.length a.c, .int .i64 a.root] 24)).alloc (.cells #[.slice b.A b.ns.length b.c, .int .i64 b.root] 24)).alloc (.cells #[.slice c.A c.ns.length c.c, .int .i64 c.root] 24)).cell? ⟨w.heap.size, 1, none⟩ = some (.int .i64 a.root) ∧ (((w.alloc (.cells #[.slice a.A a.ns.length a.c, .int .i64 a.root] 24)).alloc (.cells #[.slice b.A b.ns.length b.c, .int .i64 b.root] 24)).alloc (.cells #[.slice c.A c.ns.length c.c, .int .i64 c.root] 24)).cell? ⟨w.heap.size + 1, 0, none⟩ = some (.slice b.A b.ns.length b.c) ∧ (((w.alloc (.cells #[.slice a.A a.ns.length a.c, .int .i64 a.root] 24)).alloc (.cells #[.slice b.A b.ns.length b.c, .int .i64 b.root] 24)).alloc (.cells #[.slice c.A c.ns.length c.c, .int .i64 c.root] 24)).cell? ⟨w.heap.size + 1, 1, none⟩ = some (.int .i64 b.root) ∧ (((w.alloc (.cells #[.slice a.A a.ns.length a.c, .int .i64 a.root] 24)).alloc (.cells #[.slice b.A b.ns.length b.c, .int .i64 b.root] 24)).alloc (.cells #[.slice c.A c.ns.length c.c, .int .i64 c.root] 24)).cell? ⟨w.heap.size + 2, 0, none⟩ = some (.slice c.A c.ns.length c.c) ∧ (((w.alloc (.cells #[.slice a.A a.ns.length a.c, .int .i64 a.root] 24)).alloc (.cells #[.slice b.A b.ns.length b.c, .int .i64 b.root] 24)).alloc (.cells #[.slice c.A c.ns.length c.c, .int .i64 c.root] 24)).cell? ⟨w.heap.size + 2, 1, none⟩ = some (.int .i64 c.root) := by
  obtain ⟨hv, a0, a1, b0, b1⟩ := two_graphs w a b
  have hs : ((w.alloc (.cells #[.slice a.A a.ns.length a.c, .int .i64 a.root] 24)).alloc (.cells #[.slice b.A b.ns.length b.c, .int .i64 b.root] 24)).heap.size = w.heap.size + 2 := by simp
  generalize ((w.alloc (.cells #[.slice a.A a.ns.length a.c, .int .i64 a.root] 24)).alloc (.cells #[.slice b.A b.ns.length b.c, .int .i64 b.root] 24)) = V at hv a0 a1 b0 b1 hs ⊢
  have h9 := heap_new V #[.slice c.A c.ns.length c.c, .int .i64 c.root] 24
  rw [hs] at h9
  have up : ∀ {p : Addr} {v : Value}, V.cell? p = some v → (V.alloc (.cells #[.slice c.A c.ns.length c.c, .int .i64 c.root] 24)).cell? p = some v := fun h => ((ext_world V _).cell (block_lt_of_cell h)).trans h
  exact ⟨hv.out.alloc hv.out.size _, up a0, up a1, up b0, up b1, bcell h9 0, bcell h9 1⟩
def b3 : Obj := .cells #[.bool false, .bool false, .bool false] 33 (0, 0)
def F5 (n0 : Nat) (VS : List Value) (j : Nat) (v : Value) (U : World) : Prop := if j < 9 then v = VS.getD j undef else ∃ q, v = .pointer (some ⟨q, 0, none⟩) ∧ n0 ≤ q ∧ U.heap[q]? = some b3
def G5 (i : Nat) (u : Value) (j : Nat) (v : Value) : Prop := 9 ≤ i → 9 ≤ j → u ≠ v
theorem F5.mono {n0 : Nat} {VS : List Value} {j : Nat} {v : Value} {U U' : World} (h : F5 n0 VS j v U) (hb : Below U.heap.size U U') : F5 n0 VS j v U' := by
  unfold F5 at *
  split
  · rename_i hj
    rw [if_pos hj] at h
    exact h
  · rename_i hj
    rw [if_neg hj] at h
    obtain ⟨q, h1, h2, h3⟩ := h
    exact ⟨q, h1, h2, (hb.block _ (blt h3)).trans h3⟩
theorem F5.ne {n0 : Nat} {VS : List Value} {j : Nat} {v : Value} {U : World} (h : F5 n0 VS j v U) (hj : 9 ≤ j) : v ≠ .pointer (some ⟨U.heap.size, 0, none⟩) := by
  unfold F5 at h
  rw [if_neg (by omega)] at h
  obtain ⟨q, rfl, h2, h3⟩ := h
  intro e
  injection e with e
  injection e with e
  injection e with e
  have := blt h3
  omega
theorem F5.at_ {n0 : Nat} {VS : List Value} {j : Nat} {v : Value} {U : World} (h : F5 n0 VS j v U) (hj : 9 ≤ j) : ∃ q, v = .pointer (some ⟨q, 0, none⟩) ∧ n0 ≤ q ∧ U.heap[q]? = some b3 := by
  unfold F5 at h
  rwa [if_neg (by omega)] at h
theorem F5.is {n0 : Nat} {VS : List Value} {j : Nat} {v : Value} {U : World} (h : F5 n0 VS j v U) (hj : j < 9) : v = VS.getD j undef := by
  unfold F5 at h
  rwa [if_pos hj] at h
theorem F5.of {n0 : Nat} {VS : List Value} {j : Nat} {v : Value} {U : World} (hj : j < 9) (h : v = VS.getD j undef) : F5 n0 VS j v U := by
  unfold F5
  rwa [if_pos hj]
theorem F5.new {n0 : Nat} {VS : List Value} {j : Nat} {U : World} (hj : 9 ≤ j) (h : n0 ≤ U.heap.size) : F5 n0 VS j (.pointer (some ⟨U.heap.size, 0, none⟩)) (U.alloc (.cells #[.bool false, .bool false, .bool false] 33)) := by
  unfold F5
  rw [if_neg (by omega)]
  exact ⟨_, rfl, h, heap_new U _ _⟩
theorem eq3 (x y z : Bool) (V : World) : (Op.equalIn 10000 33 (.agg #[.bool x, .bool y, .bool z]) (.agg #[.bool x, .bool y, .bool z])).run Tryd.prog V = .ok true V := by
  cases x <;> cases y <;> cases z <;> kernel_rfl
set_option maxRecDepth 100000 in
set_option maxHeartbeats 6400000 in
theorem law_IsoOrder (w : World) (a b c : Gv) (E : Env w) (Ga : GrIn w a) (Gb : GrIn w b) (Gc : GrIn w c) : Calls Tryd.prog 4 #[a.val, b.val, c.val] w (BoolPost true w) := by
  obtain ⟨hv, a0, a1, b0, b1, c0, c1⟩ := three_graphs w a b c
  have LA : Hid (∀ V, Below w.heap.size w V → Calls Tryd.prog 7 #[.agg #[.slice a.A a.ns.length a.c, .int .i64 a.root]] V (BoolPost (largeN a.ns) V)) := fun V hV => (large_any V a (Ga.below hV)).mono fun e w' h => ⟨h.1, h.2.out⟩
  have RA : Hid (largeN a.ns = false → ∀ V, Below w.heap.size w V → Calls Tryd.prog 15 #[.agg #[.slice a.A a.ns.length a.c, .int .i64 a.root]] V (BoolPost (rightN a) V)) := fun h V hV => right_any a V (E.below hV) (Ga.below hV) (small_of h)
  have LB : Hid (∀ V, Below w.heap.size w V → Calls Tryd.prog 7 #[.agg #[.slice b.A b.ns.length b.c, .int .i64 b.root]] V (BoolPost (largeN b.ns) V)) := fun V hV => (large_any V b (Gb.below hV)).mono fun e w' h => ⟨h.1, h.2.out⟩
  have RB : Hid (largeN b.ns = false → ∀ V, Below w.heap.size w V → Calls Tryd.prog 15 #[.agg #[.slice b.A b.ns.length b.c, .int .i64 b.root]] V (BoolPost (rightN b) V)) := fun h V hV => right_any b V (E.below hV) (Gb.below hV) (small_of h)
  have LC : Hid (∀ V, Below w.heap.size w V → Calls Tryd.prog 7 #[.agg #[.slice c.A c.ns.length c.c, .int .i64 c.root]] V (BoolPost (largeN c.ns) V)) := fun V hV => (large_any V c (Gc.below hV)).mono fun e w' h => ⟨h.1, h.2.out⟩
  have RC : Hid (largeN c.ns = false → ∀ V, Below w.heap.size w V → Calls Tryd.prog 15 #[.agg #[.slice c.A c.ns.length c.c, .int .i64 c.root]] V (BoolPost (rightN c) V)) := fun h V hV => right_any c V (E.below hV) (Gc.below hV) (small_of h)
  have AL : Hid (∀ V, Below w.heap.size w V → Calls Tryd.prog 8 #[] V (BoolPost true V)) := fun V hV => alive_any V (E.below hV)
  have AAA : Hid (largeN a.ns = false → largeN a.ns = false → ∀ V, Below w.heap.size w V → Calls Tryd.prog 16 #[.agg #[.slice a.A a.ns.length a.c, .int .i64 a.root], .agg #[.slice a.A a.ns.length a.c, .int .i64 a.root]] V (AllPost (tellR a a false false).1 (tellR a a false true).1 (tellR a a true true).1 V)) := fun h k V hV => all_any a a V (E.below hV) (Ga.below hV) (Ga.below hV) (small_of h) (small_of k)
  have AAB : Hid (largeN a.ns = false → largeN b.ns = false → ∀ V, Below w.heap.size w V → Calls Tryd.prog 16 #[.agg #[.slice a.A a.ns.length a.c, .int .i64 a.root], .agg #[.slice b.A b.ns.length b.c, .int .i64 b.root]] V (AllPost (tellR a b false false).1 (tellR a b false true).1 (tellR a b true true).1 V)) := fun h k V hV => all_any a b V (E.below hV) (Ga.below hV) (Gb.below hV) (small_of h) (small_of k)
  have ABA : Hid (largeN b.ns = false → largeN a.ns = false → ∀ V, Below w.heap.size w V → Calls Tryd.prog 16 #[.agg #[.slice b.A b.ns.length b.c, .int .i64 b.root], .agg #[.slice a.A a.ns.length a.c, .int .i64 a.root]] V (AllPost (tellR b a false false).1 (tellR b a false true).1 (tellR b a true true).1 V)) := fun h k V hV => all_any b a V (E.below hV) (Gb.below hV) (Ga.below hV) (small_of h) (small_of k)
  have ABC : Hid (largeN b.ns = false → largeN c.ns = false → ∀ V, Below w.heap.size w V → Calls Tryd.prog 16 #[.agg #[.slice b.A b.ns.length b.c, .int .i64 b.root], .agg #[.slice c.A c.ns.length c.c, .int .i64 c.root]] V (AllPost (tellR b c false false).1 (tellR b c false true).1 (tellR b c true true).1 V)) := fun h k V hV => all_any b c V (E.below hV) (Gb.below hV) (Gc.below hV) (small_of h) (small_of k)
  have AAC : Hid (largeN a.ns = false → largeN c.ns = false → ∀ V, Below w.heap.size w V → Calls Tryd.prog 16 #[.agg #[.slice a.A a.ns.length a.c, .int .i64 a.root], .agg #[.slice c.A c.ns.length c.c, .int .i64 c.root]] V (AllPost (tellR a c false false).1 (tellR a c false true).1 (tellR a c true true).1 V)) := fun h k V hV => all_any a c V (E.below hV) (Ga.below hV) (Gc.below hV) (small_of h) (small_of k)
  unfold Gv.val
  clear E Ga Gb Gc
  generalize hla : largeN a.ns = la at LA RA AAA AAB ABA ABC AAC
  generalize hlb : largeN b.ns = lb at LB RB AAB ABA ABC
  generalize hlc : largeN c.ns = lc at LC RC ABC AAC
  obtain ⟨ra, hra⟩ : ∃ ra, ra = rightN a := ⟨_, rfl⟩
  obtain ⟨rb, hrb⟩ : ∃ rb, rb = rightN b := ⟨_, rfl⟩
  obtain ⟨rc, hrc⟩ : ∃ rc, rc = rightN c := ⟨_, rfl⟩
  rw [← hra] at RA
  rw [← hrb] at RB
  rw [← hrc] at RC
  have HRA := Lib.hid hra
  have HRB := Lib.hid hrb
  have HRC := Lib.hid hrc
  clear hla hlb hlc hra hrb hrc
  cases la with
  | true =>
    clear AAA AAB ABA ABC AAC
    go_enter Tryd.func4, Tryd.ntmps4
    go_wp2_with (first | (go_at_call 7; (with_reducible refine (LA.out _ hv.out).mono ?_); rintro e wq ⟨rfl, hb⟩; replace a0 := (hb.cell (p := ⟨w.heap.size, 0, none⟩) (block_lt_of_cell a0)).trans a0; replace a1 := (hb.cell (p := ⟨w.heap.size, 1, none⟩) (block_lt_of_cell a1)).trans a1; replace b0 := (hb.cell (p := ⟨w.heap.size + 1, 0, none⟩) (block_lt_of_cell b0)).trans b0; replace b1 := (hb.cell (p := ⟨w.heap.size + 1, 1, none⟩) (block_lt_of_cell b1)).trans b1; replace c0 := (hb.cell (p := ⟨w.heap.size + 2, 0, none⟩) (block_lt_of_cell c0)).trans c0; replace c1 := (hb.cell (p := ⟨w.heap.size + 2, 1, none⟩) (block_lt_of_cell c1)).trans c1; replace hv := Lib.hid (hv.out.trans (hb.mono hv.out.size)); clear hb) | (go_at_call 8; (with_reducible refine (AL.out _ hv.out).mono ?_); rintro e wq ⟨rfl, hb⟩; replace hv := Lib.hid (hv.out.trans (hb.mono hv.out.size)); clear hb))
    go_ret
    exact ⟨rfl, hv.out⟩
  | false =>
    cases lb with
    | true =>
      clear AAA AAB ABA ABC AAC
      go_enter Tryd.func4, Tryd.ntmps4
      go_wp2_with (first | (go_at_call 7; (with_reducible refine (LA.out _ hv.out).mono ?_); rintro e wq ⟨rfl, hb⟩; replace a0 := (hb.cell (p := ⟨w.heap.size, 0, none⟩) (block_lt_of_cell a0)).trans a0; replace a1 := (hb.cell (p := ⟨w.heap.size, 1, none⟩) (block_lt_of_cell a1)).trans a1; replace b0 := (hb.cell (p := ⟨w.heap.size + 1, 0, none⟩) (block_lt_of_cell b0)).trans b0; replace b1 := (hb.cell (p := ⟨w.heap.size + 1, 1, none⟩) (block_lt_of_cell b1)).trans b1; replace c0 := (hb.cell (p := ⟨w.heap.size + 2, 0, none⟩) (block_lt_of_cell c0)).trans c0; replace c1 := (hb.cell (p := ⟨w.heap.size + 2, 1, none⟩) (block_lt_of_cell c1)).trans c1; replace hv := Lib.hid (hv.out.trans (hb.mono hv.out.size)); clear hb) | (go_at_call 7; (with_reducible refine (LB.out _ hv.out).mono ?_); rintro e wq ⟨rfl, hb⟩; replace a0 := (hb.cell (p := ⟨w.heap.size, 0, none⟩) (block_lt_of_cell a0)).trans a0; replace a1 := (hb.cell (p := ⟨w.heap.size, 1, none⟩) (block_lt_of_cell a1)).trans a1; replace b0 := (hb.cell (p := ⟨w.heap.size + 1, 0, none⟩) (block_lt_of_cell b0)).trans b0; replace b1 := (hb.cell (p := ⟨w.heap.size + 1, 1, none⟩) (block_lt_of_cell b1)).trans b1; replace c0 := (hb.cell (p := ⟨w.heap.size + 2, 0, none⟩) (block_lt_of_cell c0)).trans c0; replace c1 := (hb.cell (p := ⟨w.heap.size + 2, 1, none⟩) (block_lt_of_cell c1)).trans c1; replace hv := Lib.hid (hv.out.trans (hb.mono hv.out.size)); clear hb) | (go_at_call 8; (with_reducible refine (AL.out _ hv.out).mono ?_); rintro e wq ⟨rfl, hb⟩; replace hv := Lib.hid (hv.out.trans (hb.mono hv.out.size)); clear hb))
      go_ret
      exact ⟨rfl, hv.out⟩
    | false =>
      cases lc with
      | true =>
        clear AAA AAB ABA ABC AAC
        go_enter Tryd.func4, Tryd.ntmps4
        go_wp2_with (first | (go_at_call 7; (with_reducible refine (LA.out _ hv.out).mono ?_); rintro e wq ⟨rfl, hb⟩; replace a0 := (hb.cell (p := ⟨w.heap.size, 0, none⟩) (block_lt_of_cell a0)).trans a0; replace a1 := (hb.cell (p := ⟨w.heap.size, 1, none⟩) (block_lt_of_cell a1)).trans a1; replace b0 := (hb.cell (p := ⟨w.heap.size + 1, 0, none⟩) (block_lt_of_cell b0)).trans b0; replace b1 := (hb.cell (p := ⟨w.heap.size + 1, 1, none⟩) (block_lt_of_cell b1)).trans b1; replace c0 := (hb.cell (p := ⟨w.heap.size + 2, 0, none⟩) (block_lt_of_cell c0)).trans c0; replace c1 := (hb.cell (p := ⟨w.heap.size + 2, 1, none⟩) (block_lt_of_cell c1)).trans c1; replace hv := Lib.hid (hv.out.trans (hb.mono hv.out.size)); clear hb) | (go_at_call 7; (with_reducible refine (LB.out _ hv.out).mono ?_); rintro e wq ⟨rfl, hb⟩; replace a0 := (hb.cell (p := ⟨w.heap.size, 0, none⟩) (block_lt_of_cell a0)).trans a0; replace a1 := (hb.cell (p := ⟨w.heap.size, 1, none⟩) (block_lt_of_cell a1)).trans a1; replace b0 := (hb.cell (p := ⟨w.heap.size + 1, 0, none⟩) (block_lt_of_cell b0)).trans b0; replace b1 := (hb.cell (p := ⟨w.heap.size + 1, 1, none⟩) (block_lt_of_cell b1)).trans b1; replace c0 := (hb.cell (p := ⟨w.heap.size + 2, 0, none⟩) (block_lt_of_cell c0)).trans c0; replace c1 := (hb.cell (p := ⟨w.heap.size + 2, 1, none⟩) (block_lt_of_cell c1)).trans c1; replace hv := Lib.hid (hv.out.trans (hb.mono hv.out.size)); clear hb) | (go_at_call 7; (with_reducible refine (LC.out _ hv.out).mono ?_); rintro e wq ⟨rfl, hb⟩; replace a0 := (hb.cell (p := ⟨w.heap.size, 0, none⟩) (block_lt_of_cell a0)).trans a0; replace a1 := (hb.cell (p := ⟨w.heap.size, 1, none⟩) (block_lt_of_cell a1)).trans a1; replace b0 := (hb.cell (p := ⟨w.heap.size + 1, 0, none⟩) (block_lt_of_cell b0)).trans b0; replace b1 := (hb.cell (p := ⟨w.heap.size + 1, 1, none⟩) (block_lt_of_cell b1)).trans b1; replace c0 := (hb.cell (p := ⟨w.heap.size + 2, 0, none⟩) (block_lt_of_cell c0)).trans c0; replace c1 := (hb.cell (p := ⟨w.heap.size + 2, 1, none⟩) (block_lt_of_cell c1)).trans c1; replace hv := Lib.hid (hv.out.trans (hb.mono hv.out.size)); clear hb) | (go_at_call 8; (with_reducible refine (AL.out _ hv.out).mono ?_); rintro e wq ⟨rfl, hb⟩; replace hv := Lib.hid (hv.out.trans (hb.mono hv.out.size)); clear hb))
        go_ret
        exact ⟨rfl, hv.out⟩
      | false =>
        replace RA := Lib.hid (RA.out rfl)
        replace RB := Lib.hid (RB.out rfl)
        replace RC := Lib.hid (RC.out rfl)
        cases ra with
        | false =>
          clear AAA AAB ABA ABC AAC
          go_enter Tryd.func4, Tryd.ntmps4
          go_wp2_with (first | (go_at_call 7; (with_reducible refine (LA.out _ hv.out).mono ?_); rintro e wq ⟨rfl, hb⟩; replace a0 := (hb.cell (p := ⟨w.heap.size, 0, none⟩) (block_lt_of_cell a0)).trans a0; replace a1 := (hb.cell (p := ⟨w.heap.size, 1, none⟩) (block_lt_of_cell a1)).trans a1; replace b0 := (hb.cell (p := ⟨w.heap.size + 1, 0, none⟩) (block_lt_of_cell b0)).trans b0; replace b1 := (hb.cell (p := ⟨w.heap.size + 1, 1, none⟩) (block_lt_of_cell b1)).trans b1; replace c0 := (hb.cell (p := ⟨w.heap.size + 2, 0, none⟩) (block_lt_of_cell c0)).trans c0; replace c1 := (hb.cell (p := ⟨w.heap.size + 2, 1, none⟩) (block_lt_of_cell c1)).trans c1; replace hv := Lib.hid (hv.out.trans (hb.mono hv.out.size)); clear hb) | (go_at_call 7; (with_reducible refine (LB.out _ hv.out).mono ?_); rintro e wq ⟨rfl, hb⟩; replace a0 := (hb.cell (p := ⟨w.heap.size, 0, none⟩) (block_lt_of_cell a0)).trans a0; replace a1 := (hb.cell (p := ⟨w.heap.size, 1, none⟩) (block_lt_of_cell a1)).trans a1; replace b0 := (hb.cell (p := ⟨w.heap.size + 1, 0, none⟩) (block_lt_of_cell b0)).trans b0; replace b1 := (hb.cell (p := ⟨w.heap.size + 1, 1, none⟩) (block_lt_of_cell b1)).trans b1; replace c0 := (hb.cell (p := ⟨w.heap.size + 2, 0, none⟩) (block_lt_of_cell c0)).trans c0; replace c1 := (hb.cell (p := ⟨w.heap.size + 2, 1, none⟩) (block_lt_of_cell c1)).trans c1; replace hv := Lib.hid (hv.out.trans (hb.mono hv.out.size)); clear hb) | (go_at_call 7; (with_reducible refine (LC.out _ hv.out).mono ?_); rintro e wq ⟨rfl, hb⟩; replace a0 := (hb.cell (p := ⟨w.heap.size, 0, none⟩) (block_lt_of_cell a0)).trans a0; replace a1 := (hb.cell (p := ⟨w.heap.size, 1, none⟩) (block_lt_of_cell a1)).trans a1; replace b0 := (hb.cell (p := ⟨w.heap.size + 1, 0, none⟩) (block_lt_of_cell b0)).trans b0; replace b1 := (hb.cell (p := ⟨w.heap.size + 1, 1, none⟩) (block_lt_of_cell b1)).trans b1; replace c0 := (hb.cell (p := ⟨w.heap.size + 2, 0, none⟩) (block_lt_of_cell c0)).trans c0; replace c1 := (hb.cell (p := ⟨w.heap.size + 2, 1, none⟩) (block_lt_of_cell c1)).trans c1; replace hv := Lib.hid (hv.out.trans (hb.mono hv.out.size)); clear hb) | (go_at_call 15; (with_reducible refine (RA.out _ hv.out).mono ?_); rintro e wq ⟨rfl, hb⟩; replace a0 := (hb.cell (p := ⟨w.heap.size, 0, none⟩) (block_lt_of_cell a0)).trans a0; replace a1 := (hb.cell (p := ⟨w.heap.size, 1, none⟩) (block_lt_of_cell a1)).trans a1; replace b0 := (hb.cell (p := ⟨w.heap.size + 1, 0, none⟩) (block_lt_of_cell b0)).trans b0; replace b1 := (hb.cell (p := ⟨w.heap.size + 1, 1, none⟩) (block_lt_of_cell b1)).trans b1; replace c0 := (hb.cell (p := ⟨w.heap.size + 2, 0, none⟩) (block_lt_of_cell c0)).trans c0; replace c1 := (hb.cell (p := ⟨w.heap.size + 2, 1, none⟩) (block_lt_of_cell c1)).trans c1; replace hv := Lib.hid (hv.out.trans (hb.mono hv.out.size)); clear hb) | (go_at_call 8; (with_reducible refine (AL.out _ hv.out).mono ?_); rintro e wq ⟨rfl, hb⟩; replace hv := Lib.hid (hv.out.trans (hb.mono hv.out.size)); clear hb))
          go_ret
          exact ⟨rfl, hv.out⟩
        | true =>
          cases rb with
          | false =>
            clear AAA AAB ABA ABC AAC
            go_enter Tryd.func4, Tryd.ntmps4
            go_wp2_with (first | (go_at_call 7; (with_reducible refine (LA.out _ hv.out).mono ?_); rintro e wq ⟨rfl, hb⟩; replace a0 := (hb.cell (p := ⟨w.heap.size, 0, none⟩) (block_lt_of_cell a0)).trans a0; replace a1 := (hb.cell (p := ⟨w.heap.size, 1, none⟩) (block_lt_of_cell a1)).trans a1; replace b0 := (hb.cell (p := ⟨w.heap.size + 1, 0, none⟩) (block_lt_of_cell b0)).trans b0; replace b1 := (hb.cell (p := ⟨w.heap.size + 1, 1, none⟩) (block_lt_of_cell b1)).trans b1; replace c0 := (hb.cell (p := ⟨w.heap.size + 2, 0, none⟩) (block_lt_of_cell c0)).trans c0; replace c1 := (hb.cell (p := ⟨w.heap.size + 2, 1, none⟩) (block_lt_of_cell c1)).trans c1; replace hv := Lib.hid (hv.out.trans (hb.mono hv.out.size)); clear hb) | (go_at_call 7; (with_reducible refine (LB.out _ hv.out).mono ?_); rintro e wq ⟨rfl, hb⟩; replace a0 := (hb.cell (p := ⟨w.heap.size, 0, none⟩) (block_lt_of_cell a0)).trans a0; replace a1 := (hb.cell (p := ⟨w.heap.size, 1, none⟩) (block_lt_of_cell a1)).trans a1; replace b0 := (hb.cell (p := ⟨w.heap.size + 1, 0, none⟩) (block_lt_of_cell b0)).trans b0; replace b1 := (hb.cell (p := ⟨w.heap.size + 1, 1, none⟩) (block_lt_of_cell b1)).trans b1; replace c0 := (hb.cell (p := ⟨w.heap.size + 2, 0, none⟩) (block_lt_of_cell c0)).trans c0; replace c1 := (hb.cell (p := ⟨w.heap.size + 2, 1, none⟩) (block_lt_of_cell c1)).trans c1; replace hv := Lib.hid (hv.out.trans (hb.mono hv.out.size)); clear hb) | (go_at_call 7; (with_reducible refine (LC.out _ hv.out).mono ?_); rintro e wq ⟨rfl, hb⟩; replace a0 := (hb.cell (p := ⟨w.heap.size, 0, none⟩) (block_lt_of_cell a0)).trans a0; replace a1 := (hb.cell (p := ⟨w.heap.size, 1, none⟩) (block_lt_of_cell a1)).trans a1; replace b0 := (hb.cell (p := ⟨w.heap.size + 1, 0, none⟩) (block_lt_of_cell b0)).trans b0; replace b1 := (hb.cell (p := ⟨w.heap.size + 1, 1, none⟩) (block_lt_of_cell b1)).trans b1; replace c0 := (hb.cell (p := ⟨w.heap.size + 2, 0, none⟩) (block_lt_of_cell c0)).trans c0; replace c1 := (hb.cell (p := ⟨w.heap.size + 2, 1, none⟩) (block_lt_of_cell c1)).trans c1; replace hv := Lib.hid (hv.out.trans (hb.mono hv.out.size)); clear hb) | (go_at_call 15; (with_reducible refine (RA.out _ hv.out).mono ?_); rintro e wq ⟨rfl, hb⟩; replace a0 := (hb.cell (p := ⟨w.heap.size, 0, none⟩) (block_lt_of_cell a0)).trans a0; replace a1 := (hb.cell (p := ⟨w.heap.size, 1, none⟩) (block_lt_of_cell a1)).trans a1; replace b0 := (hb.cell (p := ⟨w.heap.size + 1, 0, none⟩) (block_lt_of_cell b0)).trans b0; replace b1 := (hb.cell (p := ⟨w.heap.size + 1, 1, none⟩) (block_lt_of_cell b1)).trans b1; replace c0 := (hb.cell (p := ⟨w.heap.size + 2, 0, none⟩) (block_lt_of_cell c0)).trans c0; replace c1 := (hb.cell (p := ⟨w.heap.size + 2, 1, none⟩) (block_lt_of_cell c1)).trans c1; replace hv := Lib.hid (hv.out.trans (hb.mono hv.out.size)); clear hb) | (go_at_call 15; (with_reducible refine (RB.out _ hv.out).mono ?_); rintro e wq ⟨rfl, hb⟩; replace a0 := (hb.cell (p := ⟨w.heap.size, 0, none⟩) (block_lt_of_cell a0)).trans a0; replace a1 := (hb.cell (p := ⟨w.heap.size, 1, none⟩) (block_lt_of_cell a1)).trans a1; replace b0 := (hb.cell (p := ⟨w.heap.size + 1, 0, none⟩) (block_lt_of_cell b0)).trans b0; replace b1 := (hb.cell (p := ⟨w.heap.size + 1, 1, none⟩) (block_lt_of_cell b1)).trans b1; replace c0 := (hb.cell (p := ⟨w.heap.size + 2, 0, none⟩) (block_lt_of_cell c0)).trans c0; replace c1 := (hb.cell (p := ⟨w.heap.size + 2, 1, none⟩) (block_lt_of_cell c1)).trans c1; replace hv := Lib.hid (hv.out.trans (hb.mono hv.out.size)); clear hb) | (go_at_call 8; (with_reducible refine (AL.out _ hv.out).mono ?_); rintro e wq ⟨rfl, hb⟩; replace hv := Lib.hid (hv.out.trans (hb.mono hv.out.size)); clear hb))
            go_ret
            exact ⟨rfl, hv.out⟩
          | true =>
            cases rc with
            | false =>
              clear AAA AAB ABA ABC AAC
              go_enter Tryd.func4, Tryd.ntmps4
              go_wp2_with (first | (go_at_call 7; (with_reducible refine (LA.out _ hv.out).mono ?_); rintro e wq ⟨rfl, hb⟩; replace a0 := (hb.cell (p := ⟨w.heap.size, 0, none⟩) (block_lt_of_cell a0)).trans a0; replace a1 := (hb.cell (p := ⟨w.heap.size, 1, none⟩) (block_lt_of_cell a1)).trans a1; replace b0 := (hb.cell (p := ⟨w.heap.size + 1, 0, none⟩) (block_lt_of_cell b0)).trans b0; replace b1 := (hb.cell (p := ⟨w.heap.size + 1, 1, none⟩) (block_lt_of_cell b1)).trans b1; replace c0 := (hb.cell (p := ⟨w.heap.size + 2, 0, none⟩) (block_lt_of_cell c0)).trans c0; replace c1 := (hb.cell (p := ⟨w.heap.size + 2, 1, none⟩) (block_lt_of_cell c1)).trans c1; replace hv := Lib.hid (hv.out.trans (hb.mono hv.out.size)); clear hb) | (go_at_call 7; (with_reducible refine (LB.out _ hv.out).mono ?_); rintro e wq ⟨rfl, hb⟩; replace a0 := (hb.cell (p := ⟨w.heap.size, 0, none⟩) (block_lt_of_cell a0)).trans a0; replace a1 := (hb.cell (p := ⟨w.heap.size, 1, none⟩) (block_lt_of_cell a1)).trans a1; replace b0 := (hb.cell (p := ⟨w.heap.size + 1, 0, none⟩) (block_lt_of_cell b0)).trans b0; replace b1 := (hb.cell (p := ⟨w.heap.size + 1, 1, none⟩) (block_lt_of_cell b1)).trans b1; replace c0 := (hb.cell (p := ⟨w.heap.size + 2, 0, none⟩) (block_lt_of_cell c0)).trans c0; replace c1 := (hb.cell (p := ⟨w.heap.size + 2, 1, none⟩) (block_lt_of_cell c1)).trans c1; replace hv := Lib.hid (hv.out.trans (hb.mono hv.out.size)); clear hb) | (go_at_call 7; (with_reducible refine (LC.out _ hv.out).mono ?_); rintro e wq ⟨rfl, hb⟩; replace a0 := (hb.cell (p := ⟨w.heap.size, 0, none⟩) (block_lt_of_cell a0)).trans a0; replace a1 := (hb.cell (p := ⟨w.heap.size, 1, none⟩) (block_lt_of_cell a1)).trans a1; replace b0 := (hb.cell (p := ⟨w.heap.size + 1, 0, none⟩) (block_lt_of_cell b0)).trans b0; replace b1 := (hb.cell (p := ⟨w.heap.size + 1, 1, none⟩) (block_lt_of_cell b1)).trans b1; replace c0 := (hb.cell (p := ⟨w.heap.size + 2, 0, none⟩) (block_lt_of_cell c0)).trans c0; replace c1 := (hb.cell (p := ⟨w.heap.size + 2, 1, none⟩) (block_lt_of_cell c1)).trans c1; replace hv := Lib.hid (hv.out.trans (hb.mono hv.out.size)); clear hb) | (go_at_call 15; (with_reducible refine (RA.out _ hv.out).mono ?_); rintro e wq ⟨rfl, hb⟩; replace a0 := (hb.cell (p := ⟨w.heap.size, 0, none⟩) (block_lt_of_cell a0)).trans a0; replace a1 := (hb.cell (p := ⟨w.heap.size, 1, none⟩) (block_lt_of_cell a1)).trans a1; replace b0 := (hb.cell (p := ⟨w.heap.size + 1, 0, none⟩) (block_lt_of_cell b0)).trans b0; replace b1 := (hb.cell (p := ⟨w.heap.size + 1, 1, none⟩) (block_lt_of_cell b1)).trans b1; replace c0 := (hb.cell (p := ⟨w.heap.size + 2, 0, none⟩) (block_lt_of_cell c0)).trans c0; replace c1 := (hb.cell (p := ⟨w.heap.size + 2, 1, none⟩) (block_lt_of_cell c1)).trans c1; replace hv := Lib.hid (hv.out.trans (hb.mono hv.out.size)); clear hb) | (go_at_call 15; (with_reducible refine (RB.out _ hv.out).mono ?_); rintro e wq ⟨rfl, hb⟩; replace a0 := (hb.cell (p := ⟨w.heap.size, 0, none⟩) (block_lt_of_cell a0)).trans a0; replace a1 := (hb.cell (p := ⟨w.heap.size, 1, none⟩) (block_lt_of_cell a1)).trans a1; replace b0 := (hb.cell (p := ⟨w.heap.size + 1, 0, none⟩) (block_lt_of_cell b0)).trans b0; replace b1 := (hb.cell (p := ⟨w.heap.size + 1, 1, none⟩) (block_lt_of_cell b1)).trans b1; replace c0 := (hb.cell (p := ⟨w.heap.size + 2, 0, none⟩) (block_lt_of_cell c0)).trans c0; replace c1 := (hb.cell (p := ⟨w.heap.size + 2, 1, none⟩) (block_lt_of_cell c1)).trans c1; replace hv := Lib.hid (hv.out.trans (hb.mono hv.out.size)); clear hb) | (go_at_call 15; (with_reducible refine (RC.out _ hv.out).mono ?_); rintro e wq ⟨rfl, hb⟩; replace a0 := (hb.cell (p := ⟨w.heap.size, 0, none⟩) (block_lt_of_cell a0)).trans a0; replace a1 := (hb.cell (p := ⟨w.heap.size, 1, none⟩) (block_lt_of_cell a1)).trans a1; replace b0 := (hb.cell (p := ⟨w.heap.size + 1, 0, none⟩) (block_lt_of_cell b0)).trans b0; replace b1 := (hb.cell (p := ⟨w.heap.size + 1, 1, none⟩) (block_lt_of_cell b1)).trans b1; replace c0 := (hb.cell (p := ⟨w.heap.size + 2, 0, none⟩) (block_lt_of_cell c0)).trans c0; replace c1 := (hb.cell (p := ⟨w.heap.size + 2, 1, none⟩) (block_lt_of_cell c1)).trans c1; replace hv := Lib.hid (hv.out.trans (hb.mono hv.out.size)); clear hb) | (go_at_call 8; (with_reducible refine (AL.out _ hv.out).mono ?_); rintro e wq ⟨rfl, hb⟩; replace hv := Lib.hid (hv.out.trans (hb.mono hv.out.size)); clear hb))
              go_ret
              exact ⟨rfl, hv.out⟩
            | true =>
              replace AAA := Lib.hid (AAA.out rfl rfl)
              replace AAB := Lib.hid (AAB.out rfl rfl)
              replace ABA := Lib.hid (ABA.out rfl rfl)
              replace ABC := Lib.hid (ABC.out rfl rfl)
              replace AAC := Lib.hid (AAC.out rfl rfl)
              have ra := HRA.out.symm
              have rb := HRB.out.symm
              have rc := HRC.out.symm
              have tt : ∀ o n, (tellR a a o n).1 = true := fun o n => by
                rw [tellR_right ra ra]
                exact (tell_iff ra ra).2 (tell_refl ra o n)
              have ts : ∀ o n, (tellR b a o n).1 = (tellR a b o n).1 := fun o n => by
                rw [tellR_right rb ra, tellR_right ra rb]
                cases h1 : tellN a b o n with
                | true => exact (tell_iff rb ra).2 (tell_symm ra rb ((tell_iff ra rb).1 h1))
                | false =>
                  cases h2 : tellN b a o n with
                  | false => rfl
                  | true => rw [(tell_iff ra rb).2 (tell_symm rb ra ((tell_iff rb ra).1 h2))] at h1; cases h1
              have tr : ∀ o n, (tellR a b o n).1 = true → (tellR b c o n).1 = true → (tellR a c o n).1 = true := fun o n h1 h2 => by
                rw [tellR_right ra rb] at h1
                rw [tellR_right rb rc] at h2
                rw [tellR_right ra rc]
                exact (tell_iff ra rc).2 (tell_trans ra rb rc ((tell_iff ra rb).1 h1) ((tell_iff rb rc).1 h2))
              rw [tt, tt, tt] at AAA
              rw [ts, ts, ts] at ABA
              have T1 := Lib.hid (tr false false)
              have T2 := Lib.hid (tr false true)
              have T3 := Lib.hid (tr true true)
              clear tt ts tr ra rb rc HRA HRB HRC
              generalize (tellR a b false false).1 = p1 at AAB ABA T1
              generalize (tellR a b false true).1 = p2 at AAB ABA T2
              generalize (tellR a b true true).1 = p3 at AAB ABA T3
              generalize (tellR b c false false).1 = q1 at ABC T1
              generalize (tellR b c false true).1 = q2 at ABC T2
              generalize (tellR b c true true).1 = q3 at ABC T3
              generalize (tellR a c false false).1 = s1 at AAC T1
              generalize (tellR a c false true).1 = s2 at AAC T2
              generalize (tellR a c true true).1 = s3 at AAC T3
              unfold AllPost at AAA AAB ABA ABC AAC
              go_enter Tryd.func4, Tryd.ntmps4
              go_wp2_with (first | (go_at_call 7; (with_reducible refine (LA.out _ hv.out).mono ?_); rintro e wq ⟨rfl, hb⟩; replace a0 := (hb.cell (p := ⟨w.heap.size, 0, none⟩) (block_lt_of_cell a0)).trans a0; replace a1 := (hb.cell (p := ⟨w.heap.size, 1, none⟩) (block_lt_of_cell a1)).trans a1; replace b0 := (hb.cell (p := ⟨w.heap.size + 1, 0, none⟩) (block_lt_of_cell b0)).trans b0; replace b1 := (hb.cell (p := ⟨w.heap.size + 1, 1, none⟩) (block_lt_of_cell b1)).trans b1; replace c0 := (hb.cell (p := ⟨w.heap.size + 2, 0, none⟩) (block_lt_of_cell c0)).trans c0; replace c1 := (hb.cell (p := ⟨w.heap.size + 2, 1, none⟩) (block_lt_of_cell c1)).trans c1; replace hv := Lib.hid (hv.out.trans (hb.mono hv.out.size)); clear hb) | (go_at_call 7; (with_reducible refine (LB.out _ hv.out).mono ?_); rintro e wq ⟨rfl, hb⟩; replace a0 := (hb.cell (p := ⟨w.heap.size, 0, none⟩) (block_lt_of_cell a0)).trans a0; replace a1 := (hb.cell (p := ⟨w.heap.size, 1, none⟩) (block_lt_of_cell a1)).trans a1; replace b0 := (hb.cell (p := ⟨w.heap.size + 1, 0, none⟩) (block_lt_of_cell b0)).trans b0; replace b1 := (hb.cell (p := ⟨w.heap.size + 1, 1, none⟩) (block_lt_of_cell b1)).trans b1; replace c0 := (hb.cell (p := ⟨w.heap.size + 2, 0, none⟩) (block_lt_of_cell c0)).trans c0; replace c1 := (hb.cell (p := ⟨w.heap.size + 2, 1, none⟩) (block_lt_of_cell c1)).trans c1; replace hv := Lib.hid (hv.out.trans (hb.mono hv.out.size)); clear hb) | (go_at_call 7; (with_reducible refine (LC.out _ hv.out).mono ?_); rintro e wq ⟨rfl, hb⟩; replace a0 := (hb.cell (p := ⟨w.heap.size, 0, none⟩) (block_lt_of_cell a0)).trans a0; replace a1 := (hb.cell (p := ⟨w.heap.size, 1, none⟩) (block_lt_of_cell a1)).trans a1; replace b0 := (hb.cell (p := ⟨w.heap.size + 1, 0, none⟩) (block_lt_of_cell b0)).trans b0; replace b1 := (hb.cell (p := ⟨w.heap.size + 1, 1, none⟩) (block_lt_of_cell b1)).trans b1; replace c0 := (hb.cell (p := ⟨w.heap.size + 2, 0, none⟩) (block_lt_of_cell c0)).trans c0; replace c1 := (hb.cell (p := ⟨w.heap.size + 2, 1, none⟩) (block_lt_of_cell c1)).trans c1; replace hv := Lib.hid (hv.out.trans (hb.mono hv.out.size)); clear hb) | (go_at_call 15; (with_reducible refine (RA.out _ hv.out).mono ?_); rintro e wq ⟨rfl, hb⟩; replace a0 := (hb.cell (p := ⟨w.heap.size, 0, none⟩) (block_lt_of_cell a0)).trans a0; replace a1 := (hb.cell (p := ⟨w.heap.size, 1, none⟩) (block_lt_of_cell a1)).trans a1; replace b0 := (hb.cell (p := ⟨w.heap.size + 1, 0, none⟩) (block_lt_of_cell b0)).trans b0; replace b1 := (hb.cell (p := ⟨w.heap.size + 1, 1, none⟩) (block_lt_of_cell b1)).trans b1; replace c0 := (hb.cell (p := ⟨w.heap.size + 2, 0, none⟩) (block_lt_of_cell c0)).trans c0; replace c1 := (hb.cell (p := ⟨w.heap.size + 2, 1, none⟩) (block_lt_of_cell c1)).trans c1; replace hv := Lib.hid (hv.out.trans (hb.mono hv.out.size)); clear hb) | (go_at_call 15; (with_reducible refine (RB.out _ hv.out).mono ?_); rintro e wq ⟨rfl, hb⟩; replace a0 := (hb.cell (p := ⟨w.heap.size, 0, none⟩) (block_lt_of_cell a0)).trans a0; replace a1 := (hb.cell (p := ⟨w.heap.size, 1, none⟩) (block_lt_of_cell a1)).trans a1; replace b0 := (hb.cell (p := ⟨w.heap.size + 1, 0, none⟩) (block_lt_of_cell b0)).trans b0; replace b1 := (hb.cell (p := ⟨w.heap.size + 1, 1, none⟩) (block_lt_of_cell b1)).trans b1; replace c0 := (hb.cell (p := ⟨w.heap.size + 2, 0, none⟩) (block_lt_of_cell c0)).trans c0; replace c1 := (hb.cell (p := ⟨w.heap.size + 2, 1, none⟩) (block_lt_of_cell c1)).trans c1; replace hv := Lib.hid (hv.out.trans (hb.mono hv.out.size)); clear hb) | (go_at_call 15; (with_reducible refine (RC.out _ hv.out).mono ?_); rintro e wq ⟨rfl, hb⟩; replace a0 := (hb.cell (p := ⟨w.heap.size, 0, none⟩) (block_lt_of_cell a0)).trans a0; replace a1 := (hb.cell (p := ⟨w.heap.size, 1, none⟩) (block_lt_of_cell a1)).trans a1; replace b0 := (hb.cell (p := ⟨w.heap.size + 1, 0, none⟩) (block_lt_of_cell b0)).trans b0; replace b1 := (hb.cell (p := ⟨w.heap.size + 1, 1, none⟩) (block_lt_of_cell b1)).trans b1; replace c0 := (hb.cell (p := ⟨w.heap.size + 2, 0, none⟩) (block_lt_of_cell c0)).trans c0; replace c1 := (hb.cell (p := ⟨w.heap.size + 2, 1, none⟩) (block_lt_of_cell c1)).trans c1; replace hv := Lib.hid (hv.out.trans (hb.mono hv.out.size)); clear hb))
              refine wp_region_table 13 (fun j => 37 + j) (fun V => Below wq.heap.size wq V) (fun j v _ => v = ([.agg #[.slice a.A a.ns.length a.c, .int .i64 a.root], .agg #[.slice a.A a.ns.length a.c, .int .i64 a.root], .agg #[.bool true, .bool true, .bool true], .agg #[.bool true, .bool true, .bool true], .bool false, .bool false, .agg #[.slice a.A a.ns.length a.c, .int .i64 a.root], .agg #[.slice b.A b.ns.length b.c, .int .i64 b.root], .agg #[.bool p1, .bool p2, .bool p3], .agg #[.slice b.A b.ns.length b.c, .int .i64 b.root], .agg #[.slice a.A a.ns.length a.c, .int .i64 a.root], .agg #[.bool p1, .bool p2, .bool p3], .bool false] : List Value).getD j undef) (fun _ _ _ _ => True) rfl (by kernel_rfl) ?h0 ?step ?fin
              case h0 => exact (Below.refl _ _).drew
              case step =>
                intro i o us V hi ho hV hF K hK
                have bV : Hid (Below w.heap.size w V) := hv.out.trans (hV.mono hv.out.size)
                replace a0 := (hV.cell (p := ⟨w.heap.size, 0, none⟩) (block_lt_of_cell a0)).trans a0
                replace a1 := (hV.cell (p := ⟨w.heap.size, 1, none⟩) (block_lt_of_cell a1)).trans a1
                replace b0 := (hV.cell (p := ⟨w.heap.size + 1, 0, none⟩) (block_lt_of_cell b0)).trans b0
                replace b1 := (hV.cell (p := ⟨w.heap.size + 1, 1, none⟩) (block_lt_of_cell b1)).trans b1
                replace c0 := (hV.cell (p := ⟨w.heap.size + 2, 0, none⟩) (block_lt_of_cell c0)).trans c0
                replace c1 := (hV.cell (p := ⟨w.heap.size + 2, 1, none⟩) (block_lt_of_cell c1)).trans c1
                replace hV := Lib.hid hV
                simp only [putAll, Act.put, List.setIfInBounds_toArray, List.set_cons_succ, List.set_cons_zero, Nat.reduceAdd] at hK ⊢
                have hi13 : i = 0 ∨ i = 1 ∨ i = 2 ∨ i = 3 ∨ i = 4 ∨ i = 5 ∨ i = 6 ∨ i = 7 ∨ i = 8 ∨ i = 9 ∨ i = 10 ∨ i = 11 ∨ i = 12 := by omega
                rcases hi13 with rfl | rfl | rfl | rfl | rfl | rfl | rfl | rfl | rfl | rfl | rfl | rfl | rfl
                · obtain rfl := Option.some.inj ho
                  clear hF ho hi
                  replace hK := Lib.hid hK
                  go_wp2_with fail
                  exact hK.out _ _ ⟨hV.out, rfl, fun _ _ _ _ h => ⟨h, trivial, trivial⟩⟩
                · obtain rfl := Option.some.inj ho
                  clear hF ho hi
                  replace hK := Lib.hid hK
                  go_wp2_with fail
                  exact hK.out _ _ ⟨hV.out, rfl, fun _ _ _ _ h => ⟨h, trivial, trivial⟩⟩
                · obtain rfl := Option.some.inj ho
                  have u0 : us 0 = .agg #[.slice a.A a.ns.length a.c, .int .i64 a.root] := hF { on := 0, ground := Ground.data } (by simp) rfl
                  have u1 : us 1 = .agg #[.slice a.A a.ns.length a.c, .int .i64 a.root] := hF { on := 1, ground := Ground.data } (by simp) rfl
                  rw [u0, u1] at hK ⊢
                  clear hF ho hi
                  replace hK := Lib.hid hK
                  go_wp2_with (go_at_call 16; (with_reducible refine (AAA.out _ bV.out).mono ?_); rintro e w9 ⟨rfl, hb⟩)
                  exact hK.out _ _ ⟨hV.out.trans (hb.mono hV.out.size), rfl, fun _ _ _ _ h => ⟨h, trivial, trivial⟩⟩
                · obtain rfl := Option.some.inj ho
                  clear hF ho hi
                  replace hK := Lib.hid hK
                  go_wp2_with fail
                  exact hK.out _ _ ⟨hV.out, rfl, fun _ _ _ _ h => ⟨h, trivial, trivial⟩⟩
                · obtain rfl := Option.some.inj ho
                  have u2 : us 2 = .agg #[.bool true, .bool true, .bool true] := hF { on := 2, ground := Ground.data } (by simp) rfl
                  have u3 : us 3 = .agg #[.bool true, .bool true, .bool true] := hF { on := 3, ground := Ground.data } (by simp) rfl
                  rw [u2, u3] at hK ⊢
                  clear hF ho hi
                  replace hK := Lib.hid hK
                  have e3 := eq3 true true true V
                  go_wp2_with fail
                  exact hK.out _ _ ⟨hV.out, rfl, fun _ _ _ _ h => ⟨h, trivial, trivial⟩⟩
                · obtain rfl := Option.some.inj ho
                  have u4 : us 4 = .bool false := hF { on := 4, ground := Ground.data } (by simp) rfl
                  rw [u4] at hK ⊢
                  clear hF ho hi
                  replace hK := Lib.hid hK
                  go_wp2_with fail
                  exact hK.out _ _ ⟨hV.out, rfl, fun _ _ _ _ h => ⟨h, trivial, trivial⟩⟩
                · obtain rfl := Option.some.inj ho
                  have u5 : us 5 = .bool false := hF { on := 5, ground := Ground.guard } (by simp) rfl
                  rw [u5] at hK ⊢
                  clear hF ho hi
                  replace hK := Lib.hid hK
                  go_wp2_with fail
                  exact hK.out _ _ ⟨hV.out, rfl, fun _ _ _ _ h => ⟨h, trivial, trivial⟩⟩
                · obtain rfl := Option.some.inj ho
                  have u5 : us 5 = .bool false := hF { on := 5, ground := Ground.guard } (by simp) rfl
                  rw [u5] at hK ⊢
                  clear hF ho hi
                  replace hK := Lib.hid hK
                  go_wp2_with fail
                  exact hK.out _ _ ⟨hV.out, rfl, fun _ _ _ _ h => ⟨h, trivial, trivial⟩⟩
                · obtain rfl := Option.some.inj ho
                  have u6 : us 6 = .agg #[.slice a.A a.ns.length a.c, .int .i64 a.root] := hF { on := 6, ground := Ground.data } (by simp) rfl
                  have u7 : us 7 = .agg #[.slice b.A b.ns.length b.c, .int .i64 b.root] := hF { on := 7, ground := Ground.data } (by simp) rfl
                  have u5 : us 5 = .bool false := hF { on := 5, ground := Ground.guard } (by simp) rfl
                  rw [u6, u7, u5] at hK ⊢
                  clear hF ho hi
                  replace hK := Lib.hid hK
                  go_wp2_with (go_at_call 16; (with_reducible refine (AAB.out _ bV.out).mono ?_); rintro e w9 ⟨rfl, hb⟩)
                  exact hK.out _ _ ⟨hV.out.trans (hb.mono hV.out.size), rfl, fun _ _ _ _ h => ⟨h, trivial, trivial⟩⟩
                · obtain rfl := Option.some.inj ho
                  have u5 : us 5 = .bool false := hF { on := 5, ground := Ground.guard } (by simp) rfl
                  rw [u5] at hK ⊢
                  clear hF ho hi
                  replace hK := Lib.hid hK
                  go_wp2_with fail
                  exact hK.out _ _ ⟨hV.out, rfl, fun _ _ _ _ h => ⟨h, trivial, trivial⟩⟩
                · obtain rfl := Option.some.inj ho
                  have u5 : us 5 = .bool false := hF { on := 5, ground := Ground.guard } (by simp) rfl
                  rw [u5] at hK ⊢
                  clear hF ho hi
                  replace hK := Lib.hid hK
                  go_wp2_with fail
                  exact hK.out _ _ ⟨hV.out, rfl, fun _ _ _ _ h => ⟨h, trivial, trivial⟩⟩
                · obtain rfl := Option.some.inj ho
                  have u9 : us 9 = .agg #[.slice b.A b.ns.length b.c, .int .i64 b.root] := hF { on := 9, ground := Ground.data } (by simp) rfl
                  have u10 : us 10 = .agg #[.slice a.A a.ns.length a.c, .int .i64 a.root] := hF { on := 10, ground := Ground.data } (by simp) rfl
                  have u5 : us 5 = .bool false := hF { on := 5, ground := Ground.guard } (by simp) rfl
                  rw [u9, u10, u5] at hK ⊢
                  clear hF ho hi
                  replace hK := Lib.hid hK
                  go_wp2_with (go_at_call 16; (with_reducible refine (ABA.out _ bV.out).mono ?_); rintro e w9 ⟨rfl, hb⟩)
                  exact hK.out _ _ ⟨hV.out.trans (hb.mono hV.out.size), rfl, fun _ _ _ _ h => ⟨h, trivial, trivial⟩⟩
                · obtain rfl := Option.some.inj ho
                  have u8 : us 8 = .agg #[.bool p1, .bool p2, .bool p3] := hF { on := 8, ground := Ground.data } (by simp) rfl
                  have u11 : us 11 = .agg #[.bool p1, .bool p2, .bool p3] := hF { on := 11, ground := Ground.data } (by simp) rfl
                  have u5 : us 5 = .bool false := hF { on := 5, ground := Ground.guard } (by simp) rfl
                  rw [u8, u11, u5] at hK ⊢
                  clear hF ho hi
                  replace hK := Lib.hid hK
                  have e3 := eq3 p1 p2 p3 V
                  go_wp2_with fail
                  exact hK.out _ _ ⟨hV.out, rfl, fun _ _ _ _ h => ⟨h, trivial, trivial⟩⟩
              case fin =>
                intro vs V hV hF hG
                have v5 : vs 5 = .bool false := hF 5 (by omega)
                have v12 : vs 12 = .bool false := hF 12 (by omega)
                replace hv := Lib.hid (hv.out.trans (hV.mono hv.out.size))
                replace a0 := (hV.cell (p := ⟨w.heap.size, 0, none⟩) (block_lt_of_cell a0)).trans a0
                replace a1 := (hV.cell (p := ⟨w.heap.size, 1, none⟩) (block_lt_of_cell a1)).trans a1
                replace b0 := (hV.cell (p := ⟨w.heap.size + 1, 0, none⟩) (block_lt_of_cell b0)).trans b0
                replace b1 := (hV.cell (p := ⟨w.heap.size + 1, 1, none⟩) (block_lt_of_cell b1)).trans b1
                replace c0 := (hV.cell (p := ⟨w.heap.size + 2, 0, none⟩) (block_lt_of_cell c0)).trans c0
                replace c1 := (hV.cell (p := ⟨w.heap.size + 2, 1, none⟩) (block_lt_of_cell c1)).trans c1
                clear hF hG hV
                simp only [putAll, Act.put, List.setIfInBounds_toArray, List.set_cons_succ, List.set_cons_zero, Nat.reduceAdd, List.drop_succ_cons, List.drop_zero]
                rw [v5, v12]
                clear v5 v12
                go_wp2_with fail
                refine wp_region_table 12 (fun j => if j < 9 then 51 + j else j - 2) (fun U => Below V.heap.size V U) (F5 V.heap.size [.agg #[.slice a.A a.ns.length a.c, .int .i64 a.root], .agg #[.slice b.A b.ns.length b.c, .int .i64 b.root], .agg #[.bool p1, .bool p2, .bool p3], .agg #[.slice b.A b.ns.length b.c, .int .i64 b.root], .agg #[.slice c.A c.ns.length c.c, .int .i64 c.root], .agg #[.bool q1, .bool q2, .bool q3], .agg #[.slice a.A a.ns.length a.c, .int .i64 a.root], .agg #[.slice c.A c.ns.length c.c, .int .i64 c.root], .agg #[.bool s1, .bool s2, .bool s3]]) G5 rfl (by kernel_rfl) ?h0 ?step ?fin
                case h0 => exact (Below.refl _ _).drew
                case step =>
                  intro i o us U hi ho hU hF K hK
                  have bV : Hid (Below w.heap.size w U) := hv.out.trans (hU.mono hv.out.size)
                  replace a0 := (hU.cell (p := ⟨w.heap.size, 0, none⟩) (block_lt_of_cell a0)).trans a0
                  replace a1 := (hU.cell (p := ⟨w.heap.size, 1, none⟩) (block_lt_of_cell a1)).trans a1
                  replace b0 := (hU.cell (p := ⟨w.heap.size + 1, 0, none⟩) (block_lt_of_cell b0)).trans b0
                  replace b1 := (hU.cell (p := ⟨w.heap.size + 1, 1, none⟩) (block_lt_of_cell b1)).trans b1
                  replace c0 := (hU.cell (p := ⟨w.heap.size + 2, 0, none⟩) (block_lt_of_cell c0)).trans c0
                  replace c1 := (hU.cell (p := ⟨w.heap.size + 2, 1, none⟩) (block_lt_of_cell c1)).trans c1
                  replace hU := Lib.hid hU
                  simp only [putAll, Act.put, List.setIfInBounds_toArray, List.set_cons_succ, List.set_cons_zero, Nat.reduceAdd, Nat.reduceLT, Nat.reduceSub, ↓reduceIte] at hK ⊢
                  have hi12 : i = 0 ∨ i = 1 ∨ i = 2 ∨ i = 3 ∨ i = 4 ∨ i = 5 ∨ i = 6 ∨ i = 7 ∨ i = 8 ∨ i = 9 ∨ i = 10 ∨ i = 11 := by omega
                  rcases hi12 with rfl | rfl | rfl | rfl | rfl | rfl | rfl | rfl | rfl | rfl | rfl | rfl
                  · obtain rfl := Option.some.inj ho
                    clear hF ho hi
                    replace hK := Lib.hid hK
                    go_wp2_with fail
                    exact hK.out _ _ ⟨hU.out, F5.of (by omega) rfl, fun j u _ _ h => ⟨h, fun h9 => absurd h9 (by omega), fun _ h9 => absurd h9 (by omega)⟩⟩
                  · obtain rfl := Option.some.inj ho
                    clear hF ho hi
                    replace hK := Lib.hid hK
                    go_wp2_with fail
                    exact hK.out _ _ ⟨hU.out, F5.of (by omega) rfl, fun j u _ _ h => ⟨h, fun h9 => absurd h9 (by omega), fun _ h9 => absurd h9 (by omega)⟩⟩
                  · obtain rfl := Option.some.inj ho
                    have u0 : us 0 = .agg #[.slice a.A a.ns.length a.c, .int .i64 a.root] := F5.is (j := 0) (hF { on := 0, ground := Ground.data } (by simp) rfl) (by omega)
                    have u1 : us 1 = .agg #[.slice b.A b.ns.length b.c, .int .i64 b.root] := F5.is (j := 1) (hF { on := 1, ground := Ground.data } (by simp) rfl) (by omega)
                    rw [u0, u1] at hK ⊢
                    clear hF ho hi
                    replace hK := Lib.hid hK
                    go_wp2_with (go_at_call 16; (with_reducible refine (AAB.out _ bV.out).mono ?_); rintro e w9 ⟨rfl, hb⟩)
                    exact hK.out _ _ ⟨hU.out.trans (hb.mono hU.out.size), F5.of (by omega) rfl, fun j u _ _ h => ⟨h.mono hb, fun h9 => absurd h9 (by omega), fun _ h9 => absurd h9 (by omega)⟩⟩
                  · obtain rfl := Option.some.inj ho
                    clear hF ho hi
                    replace hK := Lib.hid hK
                    go_wp2_with fail
                    exact hK.out _ _ ⟨hU.out, F5.of (by omega) rfl, fun j u _ _ h => ⟨h, fun h9 => absurd h9 (by omega), fun _ h9 => absurd h9 (by omega)⟩⟩
                  · obtain rfl := Option.some.inj ho
                    clear hF ho hi
                    replace hK := Lib.hid hK
                    go_wp2_with fail
                    exact hK.out _ _ ⟨hU.out, F5.of (by omega) rfl, fun j u _ _ h => ⟨h, fun h9 => absurd h9 (by omega), fun _ h9 => absurd h9 (by omega)⟩⟩
                  · obtain rfl := Option.some.inj ho
                    have u3 : us 3 = .agg #[.slice b.A b.ns.length b.c, .int .i64 b.root] := F5.is (j := 3) (hF { on := 3, ground := Ground.data } (by simp) rfl) (by omega)
                    have u4 : us 4 = .agg #[.slice c.A c.ns.length c.c, .int .i64 c.root] := F5.is (j := 4) (hF { on := 4, ground := Ground.data } (by simp) rfl) (by omega)
                    rw [u3, u4] at hK ⊢
                    clear hF ho hi
                    replace hK := Lib.hid hK
                    go_wp2_with (go_at_call 16; (with_reducible refine (ABC.out _ bV.out).mono ?_); rintro e w9 ⟨rfl, hb⟩)
                    exact hK.out _ _ ⟨hU.out.trans (hb.mono hU.out.size), F5.of (by omega) rfl, fun j u _ _ h => ⟨h.mono hb, fun h9 => absurd h9 (by omega), fun _ h9 => absurd h9 (by omega)⟩⟩
                  · obtain rfl := Option.some.inj ho
                    clear hF ho hi
                    replace hK := Lib.hid hK
                    go_wp2_with fail
                    exact hK.out _ _ ⟨hU.out, F5.of (by omega) rfl, fun j u _ _ h => ⟨h, fun h9 => absurd h9 (by omega), fun _ h9 => absurd h9 (by omega)⟩⟩
                  · obtain rfl := Option.some.inj ho
                    clear hF ho hi
                    replace hK := Lib.hid hK
                    go_wp2_with fail
                    exact hK.out _ _ ⟨hU.out, F5.of (by omega) rfl, fun j u _ _ h => ⟨h, fun h9 => absurd h9 (by omega), fun _ h9 => absurd h9 (by omega)⟩⟩
                  · obtain rfl := Option.some.inj ho
                    have u6 : us 6 = .agg #[.slice a.A a.ns.length a.c, .int .i64 a.root] := F5.is (j := 6) (hF { on := 6, ground := Ground.data } (by simp) rfl) (by omega)
                    have u7 : us 7 = .agg #[.slice c.A c.ns.length c.c, .int .i64 c.root] := F5.is (j := 7) (hF { on := 7, ground := Ground.data } (by simp) rfl) (by omega)
                    rw [u6, u7] at hK ⊢
                    clear hF ho hi
                    replace hK := Lib.hid hK
                    go_wp2_with (go_at_call 16; (with_reducible refine (AAC.out _ bV.out).mono ?_); rintro e w9 ⟨rfl, hb⟩)
                    exact hK.out _ _ ⟨hU.out.trans (hb.mono hU.out.size), F5.of (by omega) rfl, fun j u _ _ h => ⟨h.mono hb, fun h9 => absurd h9 (by omega), fun _ h9 => absurd h9 (by omega)⟩⟩
                  · obtain rfl := Option.some.inj ho
                    clear hF ho hi
                    replace hK := Lib.hid hK
                    go_wp2_with fail
                    exact hK.out _ _ ⟨hU.out.alloc hU.out.size _, F5.new (by omega) hU.out.size, fun j u _ _ h => ⟨h.mono (ext_world U _), fun _ h9 => Ne.symm (h.ne h9), fun h9 _ => h.ne h9⟩⟩
                  · obtain rfl := Option.some.inj ho
                    clear hF ho hi
                    replace hK := Lib.hid hK
                    go_wp2_with fail
                    exact hK.out _ _ ⟨hU.out.alloc hU.out.size _, F5.new (by omega) hU.out.size, fun j u _ _ h => ⟨h.mono (ext_world U _), fun _ h9 => Ne.symm (h.ne h9), fun h9 _ => h.ne h9⟩⟩
                  · obtain rfl := Option.some.inj ho
                    clear hF ho hi
                    replace hK := Lib.hid hK
                    go_wp2_with fail
                    exact hK.out _ _ ⟨hU.out.alloc hU.out.size _, F5.new (by omega) hU.out.size, fun j u _ _ h => ⟨h.mono (ext_world U _), fun _ h9 => Ne.symm (h.ne h9), fun h9 _ => h.ne h9⟩⟩
                case fin =>
                  intro us U hU hF hG
                  have u2 : us 2 = .agg #[.bool p1, .bool p2, .bool p3] := (hF 2 (by omega)).is (by omega)
                  have u5 : us 5 = .agg #[.bool q1, .bool q2, .bool q3] := (hF 5 (by omega)).is (by omega)
                  have u8 : us 8 = .agg #[.bool s1, .bool s2, .bool s3] := (hF 8 (by omega)).is (by omega)
                  obtain ⟨x7, e7, l7, k7⟩ := (hF 9 (by omega)).at_ (by omega)
                  obtain ⟨x8, e8, l8, k8⟩ := (hF 10 (by omega)).at_ (by omega)
                  obtain ⟨x9, e9, l9, k9⟩ := (hF 11 (by omega)).at_ (by omega)
                  have n78 : x7 ≠ x8 := fun e => hG 9 10 (by omega) (by omega) (by omega) (by omega) (by omega) (by rw [e7, e8, e])
                  have n79 : x7 ≠ x9 := fun e => hG 9 11 (by omega) (by omega) (by omega) (by omega) (by omega) (by rw [e7, e9, e])
                  have n89 : x8 ≠ x9 := fun e => hG 10 11 (by omega) (by omega) (by omega) (by omega) (by omega) (by rw [e8, e9, e])
                  have hvU := hv.out.trans (hU.mono hv.out.size)
                  have sV := hv.out.size
                  unfold b3 at k7 k8 k9
                  have m8 : (U.setRow x7 #[.bool p1, .bool p2, .bool p3]).heap[x8]? = _ := ((setRow_grown U x7 _).block x8 (blt k8) (by intro e; injection e with e; exact n78 e.symm)).trans k8
                  have m9 : ((U.setRow x7 #[.bool p1, .bool p2, .bool p3]).setRow x8 #[.bool q1, .bool q2, .bool q3]).heap[x9]? = _ := ((setRow_grown _ x8 _).block x9 (by have := blt k9; simp [World.setRow]; omega) (by intro e; injection e with e; exact n89 e.symm)).trans (((setRow_grown U x7 _).block x9 (blt k9) (by intro e; injection e with e; exact n79 e.symm)).trans k9)
                  have K7 := Lib.hid k7
                  have K8 := Lib.hid m8
                  have K9 := Lib.hid m9
                  have z7 := setRow_heap _ _ _ #[.bool p1, .bool p2, .bool p3] _ _ k7
                  have z8 := setRow_heap _ _ _ #[.bool q1, .bool q2, .bool q3] _ _ m8
                  have z9 := Lib.hid (setRow_heap _ _ _ #[.bool s1, .bool s2, .bool s3] _ _ m9)
                  have y8 := Lib.hid (((setRow_grown _ x9 #[.bool s1, .bool s2, .bool s3]).block x8 (blt z8) (by intro e; injection e with e; exact n89 e)).trans z8)
                  have y7 := Lib.hid (((setRow_grown _ x9 #[.bool s1, .bool s2, .bool s3]).block x7 (by have := blt z7; simp [World.setRow] at this ⊢; omega) (by intro e; injection e with e; exact n79 e)).trans (((setRow_grown _ x8 #[.bool q1, .bool q2, .bool q3]).block x7 (blt z7) (by intro e; injection e with e; exact n78 e)).trans z7))
                  have BU : Hid (Below w.heap.size w (((U.setRow x7 #[.bool p1, .bool p2, .bool p3]).setRow x8 #[.bool q1, .bool q2, .bool q3]).setRow x9 #[.bool s1, .bool s2, .bool s3])) := ((hvU.trans (setRow_below _ (by omega) _)).trans (setRow_below _ (by omega) _)).trans (setRow_below _ (by omega) _)
                  have h31 : (#[Value.bool p1, Value.bool p2, Value.bool p3]).all (·.oneCell') = true := by simp [Value.oneCell']
                  have h32 : (#[Value.bool q1, Value.bool q2, Value.bool q3]).all (·.oneCell') = true := by simp [Value.oneCell']
                  have h33 : (#[Value.bool s1, Value.bool s2, Value.bool s3]).all (·.oneCell') = true := by simp [Value.oneCell']
                  clear hF hG hU hvU sV hv a0 a1 b0 b1 c0 c1 k7 k8 k9 m8 m9 z7 z8 n78 n79 n89 l7 l8 l9
                  simp only [putAll, Act.put, List.setIfInBounds_toArray, List.set_cons_succ, List.set_cons_zero, Nat.reduceAdd, Nat.reduceLT, Nat.reduceSub, ↓reduceIte, List.drop_succ_cons, List.drop_zero]
                  rw [u2, u5, u8, e7, e8, e9]
                  clear u2 u5 u8 e7 e8 e9
                  go_wp2_with (first | (refine wpList_store_row rfl 33 _ _ rfl x7 #[.bool p1, .bool p2, .bool p3] rfl rfl 33 _ K7.out (by kernel_rfl) rfl h31 ?_) | (refine wpList_store_row rfl 33 _ _ rfl x8 #[.bool q1, .bool q2, .bool q3] rfl rfl 33 _ K8.out (by kernel_rfl) rfl h32 ?_) | (refine wpList_store_row rfl 33 _ _ rfl x9 #[.bool s1, .bool s2, .bool s3] rfl rfl 33 _ K9.out (by kernel_rfl) rfl h33 ?_))
                  generalize (((U.setRow x7 #[.bool p1, .bool p2, .bool p3]).setRow x8 #[.bool q1, .bool q2, .bool q3]).setRow x9 #[.bool s1, .bool s2, .bool s3]) = X at y7 y8 z9 BU ⊢
                  have d10 := bcell y7.out 0
                  have d11 := bcell y7.out 1
                  have d12 := bcell y7.out 2
                  have d20 := bcell y8.out 0
                  have d21 := bcell y8.out 1
                  have d22 := bcell y8.out 2
                  have d30 := bcell z9.out 0
                  have d31 := bcell z9.out 1
                  have d32 := bcell z9.out 2
                  clear y7 y8 z9 K7 K8 K9 h31 h32 h33
                  go_loopw [60] (fun v wr => ∃ i : Nat, i ≤ 3 ∧ v = .int .i64 (i : Int) ∧ wr = X) (fun v _ => 3 - (intOf v).toNat)
                  case atStart => exact ⟨0, Nat.zero_le _, rfl, rfl⟩
                  case round =>
                    obtain ⟨i, hi, rfl, rfl⟩ := hrel
                    have hi4 : i = 0 ∨ i = 1 ∨ i = 2 ∨ i = 3 := by omega
                    rcases hi4 with rfl | rfl | rfl | rfl
                    · cases p1 with
                      | false =>
                        go_wp2_with fail
                        go_roundw
                        case rel => exact ⟨1, by omega, rfl, trivial⟩
                        case measure => simp [intOf]
                      | true =>
                        cases q1 with
                        | false =>
                          go_wp2_with fail
                          go_roundw
                          case rel => exact ⟨1, by omega, rfl, trivial⟩
                          case measure => simp [intOf]
                        | true =>
                          obtain rfl : s1 = true := T1.out rfl rfl
                          go_wp2_with fail
                          go_roundw
                          case rel => exact ⟨1, by omega, rfl, trivial⟩
                          case measure => simp [intOf]
                    · cases p2 with
                      | false =>
                        go_wp2_with fail
                        go_roundw
                        case rel => exact ⟨2, by omega, rfl, trivial⟩
                        case measure => simp [intOf]
                      | true =>
                        cases q2 with
                        | false =>
                          go_wp2_with fail
                          go_roundw
                          case rel => exact ⟨2, by omega, rfl, trivial⟩
                          case measure => simp [intOf]
                        | true =>
                          obtain rfl : s2 = true := T2.out rfl rfl
                          go_wp2_with fail
                          go_roundw
                          case rel => exact ⟨2, by omega, rfl, trivial⟩
                          case measure => simp [intOf]
                    · cases p3 with
                      | false =>
                        go_wp2_with fail
                        go_roundw
                        case rel => exact ⟨3, by omega, rfl, trivial⟩
                        case measure => simp [intOf]
                      | true =>
                        cases q3 with
                        | false =>
                          go_wp2_with fail
                          go_roundw
                          case rel => exact ⟨3, by omega, rfl, trivial⟩
                          case measure => simp [intOf]
                        | true =>
                          obtain rfl : s3 = true := T3.out rfl rfl
                          go_wp2_with fail
                          go_roundw
                          case rel => exact ⟨3, by omega, rfl, trivial⟩
                          case measure => simp [intOf]
                    · go_wp2_with (go_at_call 8; (with_reducible refine (AL.out _ BU.out).mono ?_); rintro e w9 ⟨rfl, hb9⟩)
                      go_ret
                      exact ⟨rfl, BU.out.trans (hb9.mono BU.out.size)⟩
end Go.Proofs.YtpgncjfmaeiaaaaDoor.Is
