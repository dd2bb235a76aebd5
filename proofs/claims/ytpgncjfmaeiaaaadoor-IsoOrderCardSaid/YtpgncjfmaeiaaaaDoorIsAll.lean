/- Whether two graphs are equal, like, the same: all three. Conditions: no text, no row of kids of a right graph too long. -/
import Derived.Test.YtpgncjfmaeiaaaaDoorIsThree
set_option linter.unusedVariables false
namespace Go.Proofs.YtpgncjfmaeiaaaaDoor.Is
open Go.RowKit
def AllPost (p q r : Bool) (w : World) (e : Ending) (w' : World) : Prop := e = .returned (.agg #[.bool p, .bool q, .bool r]) ∧ Below w.heap.size w w'
set_option maxRecDepth 100000 in
set_option maxHeartbeats 3200000 in
theorem all_any (a b : Gv) (w : World) (E : Env w) (Ga : GrIn w a) (Gb : GrIn w b) (Sa : SmallG a.ns) (Sb : SmallG b.ns) : Calls Tryd.prog 16 #[a.val, b.val] w (AllPost (tellR a b false false).1 (tellR a b false true).1 (tellR a b true true).1 w) := by
  obtain ⟨BV0, a0, a1, b0, b1⟩ := two_graphs w a b
  generalize hV : ((w.alloc (.cells #[.slice a.A a.ns.length a.c, .int .i64 a.root] 24)).alloc (.cells #[.slice b.A b.ns.length b.c, .int .i64 b.root] 24)) = V at BV0 a0 a1 b0 b1
  have hVs : V.heap.size = w.heap.size + 2 := by rw [← hV]; simp
  have BV : Hid (Below w.heap.size w (V.alloc (.cells #[.bool false, .bool false, .bool false] 33))) := BV0.out.alloc BV0.out.size _
  have HX : Hid ((V.alloc (.cells #[.bool false, .bool false, .bool false] 33)).heap[w.heap.size + 1 + 1]? = some (.cells #[.bool false, .bool false, .bool false] 33 (0, 0))) := by
    have h9 := heap_new V #[.bool false, .bool false, .bool false] 33
    rw [show V.heap.size = w.heap.size + 1 + 1 from hVs] at h9
    exact h9
  have EQ : Hid (∀ U, Below w.heap.size w U → Calls Tryd.prog 9 #[.agg #[.slice a.A a.ns.length a.c, .int .i64 a.root], .agg #[.slice b.A b.ns.length b.c, .int .i64 b.root]] U (TellPost (tellR a b false false) U)) := fun U hU => equal_any a b U (E.below hU) (Ga.below hU) (Gb.below hU) Sa Sb
  have LK : Hid (∀ U, Below w.heap.size w U → Calls Tryd.prog 11 #[.agg #[.slice a.A a.ns.length a.c, .int .i64 a.root], .agg #[.slice b.A b.ns.length b.c, .int .i64 b.root]] U (TellPost (tellR a b false true) U)) := fun U hU => like_any a b U (E.below hU) (Ga.below hU) (Gb.below hU) Sa Sb
  have IS : Hid (∀ U, Below w.heap.size w U → Calls Tryd.prog 13 #[.agg #[.slice a.A a.ns.length a.c, .int .i64 a.root], .agg #[.slice b.A b.ns.length b.c, .int .i64 b.root]] U (TellPost (tellR a b true true) U)) := fun U hU => iso_any a b U (E.below hU) (Ga.below hU) (Gb.below hU) Sa Sb
  generalize tellR a b false false = p at EQ ⊢
  generalize tellR a b false true = q at LK ⊢
  generalize tellR a b true true = r at IS ⊢
  obtain ⟨p1, p2⟩ := p
  obtain ⟨q1, q2⟩ := q
  obtain ⟨r1, r2⟩ := r
  have c0 := ((ext_world V (.cells #[.bool false, .bool false, .bool false] 33)).cell (p := ⟨w.heap.size, 0, none⟩) (block_lt_of_cell a0)).trans a0
  have c1 := ((ext_world V (.cells #[.bool false, .bool false, .bool false] 33)).cell (p := ⟨w.heap.size, 1, none⟩) (block_lt_of_cell a1)).trans a1
  have d0 := ((ext_world V (.cells #[.bool false, .bool false, .bool false] 33)).cell (p := ⟨w.heap.size + 1, 0, none⟩) (block_lt_of_cell b0)).trans b0
  have d1 := ((ext_world V (.cells #[.bool false, .bool false, .bool false] 33)).cell (p := ⟨w.heap.size + 1, 1, none⟩) (block_lt_of_cell b1)).trans b1
  rw [← hV] at c0 c1 d0 d1 BV HX
  unfold Gv.val
  clear E Ga Gb Sa Sb a0 a1 b0 b1 hVs BV0 hV
  go_enter Tryd.func16, Tryd.ntmps16
  have hone : (#[Value.bool p1, Value.bool q1, Value.bool r1]).all (·.oneCell') = true := by simp [Value.oneCell']
  go_wp2_with (first
    | (go_at_call 9; (with_reducible refine (EQ.out _ BV.out).mono ?_); rintro e w2 ⟨rfl, hb2⟩; replace c0 := (hb2.cell (p := ⟨w.heap.size, 0, none⟩) (block_lt_of_cell c0)).trans c0; replace c1 := (hb2.cell (p := ⟨w.heap.size, 1, none⟩) (block_lt_of_cell c1)).trans c1; replace d0 := (hb2.cell (p := ⟨w.heap.size + 1, 0, none⟩) (block_lt_of_cell d0)).trans d0; replace d1 := (hb2.cell (p := ⟨w.heap.size + 1, 1, none⟩) (block_lt_of_cell d1)).trans d1; have X2 := Lib.hid ((hb2.block _ (blt HX.out)).trans HX.out); have V2 := Lib.hid (BV.out.trans (hb2.mono BV.out.size)))
    | (go_at_call 11; (with_reducible refine (LK.out _ V2.out).mono ?_); rintro e w3 ⟨rfl, hb3⟩; replace c0 := (hb3.cell (p := ⟨w.heap.size, 0, none⟩) (block_lt_of_cell c0)).trans c0; replace c1 := (hb3.cell (p := ⟨w.heap.size, 1, none⟩) (block_lt_of_cell c1)).trans c1; replace d0 := (hb3.cell (p := ⟨w.heap.size + 1, 0, none⟩) (block_lt_of_cell d0)).trans d0; replace d1 := (hb3.cell (p := ⟨w.heap.size + 1, 1, none⟩) (block_lt_of_cell d1)).trans d1; have X3 := Lib.hid ((hb3.block _ (blt X2.out)).trans X2.out); have V3 := Lib.hid (V2.out.trans (hb3.mono V2.out.size)))
    | (go_at_call 13; (with_reducible refine (IS.out _ V3.out).mono ?_); rintro e w4 ⟨rfl, hb4⟩; replace c0 := (hb4.cell (p := ⟨w.heap.size, 0, none⟩) (block_lt_of_cell c0)).trans c0; replace c1 := (hb4.cell (p := ⟨w.heap.size, 1, none⟩) (block_lt_of_cell c1)).trans c1; replace d0 := (hb4.cell (p := ⟨w.heap.size + 1, 0, none⟩) (block_lt_of_cell d0)).trans d0; replace d1 := (hb4.cell (p := ⟨w.heap.size + 1, 1, none⟩) (block_lt_of_cell d1)).trans d1; have X4 := Lib.hid ((hb4.block _ (blt X3.out)).trans X3.out); have V4 := Lib.hid (V3.out.trans (hb4.mono V3.out.size)))
    | (refine wpList_store_row rfl 33 _ _ rfl (w.heap.size + 1 + 1) #[.bool p1, .bool q1, .bool r1] rfl rfl 33 _ X4.out (by kernel_rfl) rfl hone ?_))
  have R4 := setRow_heap _ _ _ #[.bool p1, .bool q1, .bool r1] _ _ X4.out
  have B4 : Hid (Below w.heap.size w (w4.setRow (w.heap.size + 1 + 1) #[.bool p1, .bool q1, .bool r1])) := V4.out.trans (setRow_below w4 (by omega) _)
  have y0 : (w4.setRow (w.heap.size + 1 + 1) #[.bool p1, .bool q1, .bool r1]).cell? ⟨w.heap.size + 1 + 1, 0, none⟩ = some (.bool p1) := bcell R4 0
  have y1 : (w4.setRow (w.heap.size + 1 + 1) #[.bool p1, .bool q1, .bool r1]).cell? ⟨w.heap.size + 1 + 1, 1, none⟩ = some (.bool q1) := bcell R4 1
  have y2 : (w4.setRow (w.heap.size + 1 + 1) #[.bool p1, .bool q1, .bool r1]).cell? ⟨w.heap.size + 1 + 1, 2, none⟩ = some (.bool r1) := bcell R4 2
  clear R4 hb2 hb3 hb4 c0 c1 d0 d1
  generalize (w4.setRow (w.heap.size + 1 + 1) #[.bool p1, .bool q1, .bool r1]) = w5 at B4 y0 y1 y2 ⊢
  go_wp2_with fail
  exact bodyPost_ret (v := .agg #[.bool p1, .bool q1, .bool r1]) (by simp [results, Tryd.results16, go_sem, y0, y1, y2]) rfl ⟨rfl, B4.out⟩
end Go.Proofs.YtpgncjfmaeiaaaaDoor.Is
