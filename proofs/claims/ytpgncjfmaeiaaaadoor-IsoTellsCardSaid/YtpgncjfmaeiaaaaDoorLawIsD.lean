/- IsoTells: the walk. Conditions: the library's variables as they are laid. -/
import Derived.Test.YtpgncjfmaeiaaaaDoorLawIsA
import Derived.Test.YtpgncjfmaeiaaaaDoorIsREq
set_option linter.unusedVariables false
namespace Go.Proofs.YtpgncjfmaeiaaaaDoor.Is
open Go.RowKit
set_option maxRecDepth 100000 in
set_option maxHeartbeats 6400000 in
theorem law_IsoTells (w : World) (a b : Gv) (E : Env w) (Ga : GrIn w a) (Gb : GrIn w b) : Calls Tryd.prog 3 #[a.val, b.val] w (BoolPost true w) := by
  obtain ⟨hv, a0, a1, b0, b1⟩ := two_graphs w a b
  have LA : Hid (∀ V, Below w.heap.size w V → Calls Tryd.prog 7 #[.agg #[.slice a.A a.ns.length a.c, .int .i64 a.root]] V (BoolPost (largeN a.ns) V)) := fun V hV => (large_any V a (Ga.below hV)).mono fun e w' h => ⟨h.1, h.2.out⟩
  have LB : Hid (∀ V, Below w.heap.size w V → Calls Tryd.prog 7 #[.agg #[.slice b.A b.ns.length b.c, .int .i64 b.root]] V (BoolPost (largeN b.ns) V)) := fun V hV => (large_any V b (Gb.below hV)).mono fun e w' h => ⟨h.1, h.2.out⟩
  have AL : Hid (∀ V, Below w.heap.size w V → Calls Tryd.prog 8 #[] V (BoolPost true V)) := fun V hV => alive_any V (E.below hV)
  have E1 : Hid (largeN a.ns = false → largeN b.ns = false → ∀ V, Below w.heap.size w V → Calls Tryd.prog 9 #[.agg #[.slice a.A a.ns.length a.c, .int .i64 a.root], .agg #[.slice b.A b.ns.length b.c, .int .i64 b.root]] V (TellPost (tellR a b false false) V)) := fun h k V hV => equal_any a b V (E.below hV) (Ga.below hV) (Gb.below hV) (small_of h) (small_of k)
  have E2 : Hid (largeN a.ns = false → largeN b.ns = false → ∀ V, Below w.heap.size w V → Calls Tryd.prog 10 #[.agg #[.slice a.A a.ns.length a.c, .int .i64 a.root], .agg #[.slice b.A b.ns.length b.c, .int .i64 b.root]] V (TellPost (tellR a b false false) V)) := fun h k V hV => requal_any a b V (Ga.below hV) (Gb.below hV) (small_of h) (small_of k)
  have L1 : Hid (largeN a.ns = false → largeN b.ns = false → ∀ V, Below w.heap.size w V → Calls Tryd.prog 11 #[.agg #[.slice a.A a.ns.length a.c, .int .i64 a.root], .agg #[.slice b.A b.ns.length b.c, .int .i64 b.root]] V (TellPost (tellR a b false true) V)) := fun h k V hV => like_any a b V (E.below hV) (Ga.below hV) (Gb.below hV) (small_of h) (small_of k)
  have L2 : Hid (largeN a.ns = false → largeN b.ns = false → ∀ V, Below w.heap.size w V → Calls Tryd.prog 12 #[.agg #[.slice a.A a.ns.length a.c, .int .i64 a.root], .agg #[.slice b.A b.ns.length b.c, .int .i64 b.root]] V (TellPost (tellR a b false true) V)) := fun h k V hV => rlike_any a b V (Ga.below hV) (Gb.below hV) (small_of h) (small_of k)
  have I1 : Hid (largeN a.ns = false → largeN b.ns = false → ∀ V, Below w.heap.size w V → Calls Tryd.prog 13 #[.agg #[.slice a.A a.ns.length a.c, .int .i64 a.root], .agg #[.slice b.A b.ns.length b.c, .int .i64 b.root]] V (TellPost (tellR a b true true) V)) := fun h k V hV => iso_any a b V (E.below hV) (Ga.below hV) (Gb.below hV) (small_of h) (small_of k)
  have I2 : Hid (largeN a.ns = false → largeN b.ns = false → ∀ V, Below w.heap.size w V → Calls Tryd.prog 14 #[.agg #[.slice a.A a.ns.length a.c, .int .i64 a.root], .agg #[.slice b.A b.ns.length b.c, .int .i64 b.root]] V (TellPost (tellR a b true true) V)) := fun h k V hV => riso_any a b V (Ga.below hV) (Gb.below hV) (small_of h) (small_of k)
  unfold Gv.val
  clear E Ga Gb
  generalize largeN a.ns = la at LA E1 E2 L1 L2 I1 I2
  generalize largeN b.ns = lb at LB E1 E2 L1 L2 I1 I2
  generalize tellR a b false false = r1 at E1 E2
  generalize tellR a b false true = r2 at L1 L2
  generalize tellR a b true true = r3 at I1 I2
  obtain ⟨p1, n1⟩ := r1
  obtain ⟨p2, n2⟩ := r2
  obtain ⟨p3, n3⟩ := r3
  unfold TellPost at E1 E2 L1 L2 I1 I2
  simp only at E1 E2 L1 L2 I1 I2
  cases la with
  | true =>
    clear E1 E2 L1 L2 I1 I2
    go_enter Tryd.func3, Tryd.ntmps3
    go_wp2_with (first | (go_at_call 7; (with_reducible refine (LA.out _ hv.out).mono ?_); rintro e wq ⟨rfl, hb⟩; replace a0 := (hb.cell (p := ⟨w.heap.size, 0, none⟩) (block_lt_of_cell a0)).trans a0; replace a1 := (hb.cell (p := ⟨w.heap.size, 1, none⟩) (block_lt_of_cell a1)).trans a1; replace b0 := (hb.cell (p := ⟨w.heap.size + 1, 0, none⟩) (block_lt_of_cell b0)).trans b0; replace b1 := (hb.cell (p := ⟨w.heap.size + 1, 1, none⟩) (block_lt_of_cell b1)).trans b1; replace hv := Lib.hid (hv.out.trans (hb.mono hv.out.size)); clear hb) | (go_at_call 7; (with_reducible refine (LB.out _ hv.out).mono ?_); rintro e wq ⟨rfl, hb⟩; replace a0 := (hb.cell (p := ⟨w.heap.size, 0, none⟩) (block_lt_of_cell a0)).trans a0; replace a1 := (hb.cell (p := ⟨w.heap.size, 1, none⟩) (block_lt_of_cell a1)).trans a1; replace b0 := (hb.cell (p := ⟨w.heap.size + 1, 0, none⟩) (block_lt_of_cell b0)).trans b0; replace b1 := (hb.cell (p := ⟨w.heap.size + 1, 1, none⟩) (block_lt_of_cell b1)).trans b1; replace hv := Lib.hid (hv.out.trans (hb.mono hv.out.size)); clear hb) | (go_at_call 8; (with_reducible refine (AL.out _ hv.out).mono ?_); rintro e wq ⟨rfl, hb⟩; replace hv := Lib.hid (hv.out.trans (hb.mono hv.out.size)); clear hb))
    go_ret
    exact ⟨rfl, hv.out⟩
  | false =>
    cases lb with
    | true =>
      clear E1 E2 L1 L2 I1 I2
      go_enter Tryd.func3, Tryd.ntmps3
      go_wp2_with (first | (go_at_call 7; (with_reducible refine (LA.out _ hv.out).mono ?_); rintro e wq ⟨rfl, hb⟩; replace a0 := (hb.cell (p := ⟨w.heap.size, 0, none⟩) (block_lt_of_cell a0)).trans a0; replace a1 := (hb.cell (p := ⟨w.heap.size, 1, none⟩) (block_lt_of_cell a1)).trans a1; replace b0 := (hb.cell (p := ⟨w.heap.size + 1, 0, none⟩) (block_lt_of_cell b0)).trans b0; replace b1 := (hb.cell (p := ⟨w.heap.size + 1, 1, none⟩) (block_lt_of_cell b1)).trans b1; replace hv := Lib.hid (hv.out.trans (hb.mono hv.out.size)); clear hb) | (go_at_call 7; (with_reducible refine (LB.out _ hv.out).mono ?_); rintro e wq ⟨rfl, hb⟩; replace a0 := (hb.cell (p := ⟨w.heap.size, 0, none⟩) (block_lt_of_cell a0)).trans a0; replace a1 := (hb.cell (p := ⟨w.heap.size, 1, none⟩) (block_lt_of_cell a1)).trans a1; replace b0 := (hb.cell (p := ⟨w.heap.size + 1, 0, none⟩) (block_lt_of_cell b0)).trans b0; replace b1 := (hb.cell (p := ⟨w.heap.size + 1, 1, none⟩) (block_lt_of_cell b1)).trans b1; replace hv := Lib.hid (hv.out.trans (hb.mono hv.out.size)); clear hb) | (go_at_call 8; (with_reducible refine (AL.out _ hv.out).mono ?_); rintro e wq ⟨rfl, hb⟩; replace hv := Lib.hid (hv.out.trans (hb.mono hv.out.size)); clear hb))
      go_ret
      exact ⟨rfl, hv.out⟩
    | false =>
      replace E1 := Lib.hid (E1.out rfl rfl)
      replace E2 := Lib.hid (E2.out rfl rfl)
      replace L1 := Lib.hid (L1.out rfl rfl)
      replace L2 := Lib.hid (L2.out rfl rfl)
      replace I1 := Lib.hid (I1.out rfl rfl)
      replace I2 := Lib.hid (I2.out rfl rfl)
      have hp1 : (p1 == p1) = true := beq_self_eq_true _
      have hp2 : (p2 == p2) = true := beq_self_eq_true _
      have hp3 : (p3 == p3) = true := beq_self_eq_true _
      have hn1 : (n1 == n1) = true := beq_self_eq_true _
      have hn2 : (n2 == n2) = true := beq_self_eq_true _
      have hn3 : (n3 == n3) = true := beq_self_eq_true _
      go_enter Tryd.func3, Tryd.ntmps3
      go_wp2_with (first | (go_at_call 7; (with_reducible refine (LA.out _ hv.out).mono ?_); rintro e wq ⟨rfl, hb⟩; replace a0 := (hb.cell (p := ⟨w.heap.size, 0, none⟩) (block_lt_of_cell a0)).trans a0; replace a1 := (hb.cell (p := ⟨w.heap.size, 1, none⟩) (block_lt_of_cell a1)).trans a1; replace b0 := (hb.cell (p := ⟨w.heap.size + 1, 0, none⟩) (block_lt_of_cell b0)).trans b0; replace b1 := (hb.cell (p := ⟨w.heap.size + 1, 1, none⟩) (block_lt_of_cell b1)).trans b1; replace hv := Lib.hid (hv.out.trans (hb.mono hv.out.size)); clear hb) | (go_at_call 7; (with_reducible refine (LB.out _ hv.out).mono ?_); rintro e wq ⟨rfl, hb⟩; replace a0 := (hb.cell (p := ⟨w.heap.size, 0, none⟩) (block_lt_of_cell a0)).trans a0; replace a1 := (hb.cell (p := ⟨w.heap.size, 1, none⟩) (block_lt_of_cell a1)).trans a1; replace b0 := (hb.cell (p := ⟨w.heap.size + 1, 0, none⟩) (block_lt_of_cell b0)).trans b0; replace b1 := (hb.cell (p := ⟨w.heap.size + 1, 1, none⟩) (block_lt_of_cell b1)).trans b1; replace hv := Lib.hid (hv.out.trans (hb.mono hv.out.size)); clear hb) | (go_at_call 9; (with_reducible refine (E1.out _ hv.out).mono ?_); rintro e wq ⟨rfl, hb⟩; replace a0 := (hb.cell (p := ⟨w.heap.size, 0, none⟩) (block_lt_of_cell a0)).trans a0; replace a1 := (hb.cell (p := ⟨w.heap.size, 1, none⟩) (block_lt_of_cell a1)).trans a1; replace b0 := (hb.cell (p := ⟨w.heap.size + 1, 0, none⟩) (block_lt_of_cell b0)).trans b0; replace b1 := (hb.cell (p := ⟨w.heap.size + 1, 1, none⟩) (block_lt_of_cell b1)).trans b1; replace hv := Lib.hid (hv.out.trans (hb.mono hv.out.size)); clear hb) | (go_at_call 10; (with_reducible refine (E2.out _ hv.out).mono ?_); rintro e wq ⟨rfl, hb⟩; replace a0 := (hb.cell (p := ⟨w.heap.size, 0, none⟩) (block_lt_of_cell a0)).trans a0; replace a1 := (hb.cell (p := ⟨w.heap.size, 1, none⟩) (block_lt_of_cell a1)).trans a1; replace b0 := (hb.cell (p := ⟨w.heap.size + 1, 0, none⟩) (block_lt_of_cell b0)).trans b0; replace b1 := (hb.cell (p := ⟨w.heap.size + 1, 1, none⟩) (block_lt_of_cell b1)).trans b1; replace hv := Lib.hid (hv.out.trans (hb.mono hv.out.size)); clear hb) | (go_at_call 11; (with_reducible refine (L1.out _ hv.out).mono ?_); rintro e wq ⟨rfl, hb⟩; replace a0 := (hb.cell (p := ⟨w.heap.size, 0, none⟩) (block_lt_of_cell a0)).trans a0; replace a1 := (hb.cell (p := ⟨w.heap.size, 1, none⟩) (block_lt_of_cell a1)).trans a1; replace b0 := (hb.cell (p := ⟨w.heap.size + 1, 0, none⟩) (block_lt_of_cell b0)).trans b0; replace b1 := (hb.cell (p := ⟨w.heap.size + 1, 1, none⟩) (block_lt_of_cell b1)).trans b1; replace hv := Lib.hid (hv.out.trans (hb.mono hv.out.size)); clear hb) | (go_at_call 12; (with_reducible refine (L2.out _ hv.out).mono ?_); rintro e wq ⟨rfl, hb⟩; replace a0 := (hb.cell (p := ⟨w.heap.size, 0, none⟩) (block_lt_of_cell a0)).trans a0; replace a1 := (hb.cell (p := ⟨w.heap.size, 1, none⟩) (block_lt_of_cell a1)).trans a1; replace b0 := (hb.cell (p := ⟨w.heap.size + 1, 0, none⟩) (block_lt_of_cell b0)).trans b0; replace b1 := (hb.cell (p := ⟨w.heap.size + 1, 1, none⟩) (block_lt_of_cell b1)).trans b1; replace hv := Lib.hid (hv.out.trans (hb.mono hv.out.size)); clear hb) | (go_at_call 13; (with_reducible refine (I1.out _ hv.out).mono ?_); rintro e wq ⟨rfl, hb⟩; replace a0 := (hb.cell (p := ⟨w.heap.size, 0, none⟩) (block_lt_of_cell a0)).trans a0; replace a1 := (hb.cell (p := ⟨w.heap.size, 1, none⟩) (block_lt_of_cell a1)).trans a1; replace b0 := (hb.cell (p := ⟨w.heap.size + 1, 0, none⟩) (block_lt_of_cell b0)).trans b0; replace b1 := (hb.cell (p := ⟨w.heap.size + 1, 1, none⟩) (block_lt_of_cell b1)).trans b1; replace hv := Lib.hid (hv.out.trans (hb.mono hv.out.size)); clear hb) | (go_at_call 14; (with_reducible refine (I2.out _ hv.out).mono ?_); rintro e wq ⟨rfl, hb⟩; replace a0 := (hb.cell (p := ⟨w.heap.size, 0, none⟩) (block_lt_of_cell a0)).trans a0; replace a1 := (hb.cell (p := ⟨w.heap.size, 1, none⟩) (block_lt_of_cell a1)).trans a1; replace b0 := (hb.cell (p := ⟨w.heap.size + 1, 0, none⟩) (block_lt_of_cell b0)).trans b0; replace b1 := (hb.cell (p := ⟨w.heap.size + 1, 1, none⟩) (block_lt_of_cell b1)).trans b1; replace hv := Lib.hid (hv.out.trans (hb.mono hv.out.size)); clear hb) | (go_at_call 8; (with_reducible refine (AL.out _ hv.out).mono ?_); rintro e wq ⟨rfl, hb⟩; replace hv := Lib.hid (hv.out.trans (hb.mono hv.out.size)); clear hb))
      go_ret
      exact ⟨rfl, hv.out⟩
end Go.Proofs.YtpgncjfmaeiaaaaDoor.Is
