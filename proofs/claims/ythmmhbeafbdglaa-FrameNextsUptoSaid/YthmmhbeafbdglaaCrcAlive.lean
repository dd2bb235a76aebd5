import Derived.Test.YthmmhbeafbdglaaCrcSum
import Derived.Lib.SlBytesConst
import Derived.Lib.SmallJoins
namespace Go.Proofs.Ythmmhbeafbdglaa
open Go.RowKit
theorem heap_old {w : World} {i : Nat} {o : Obj} (h : w.heap[i]? = some o) (O : Obj) : (w.alloc O).heap[i]? = some o := by
  have hlt : i < w.heap.size := (Array.getElem?_eq_some_iff.1 h).1
  rw [Below.heap_alloc w O i hlt]; exact h
theorem heap_new1 (w : World) (o p : Obj) : ((w.alloc o).alloc p).heap[w.heap.size + 1]? = some p := heap_alloc2_new w o p
theorem heap_new2 (w : World) (o p q : Obj) : (((w.alloc o).alloc p).alloc q).heap[w.heap.size + 1 + 1]? = some q := by
  have h := heap_alloc_new ((w.alloc o).alloc p) q
  simpa using h
theorem block_lt {w : World} {i : Nat} {o : Obj} (h : w.heap[i]? = some o) : i < w.heap.size := (Array.getElem?_eq_some_iff.1 h).1
/-- bytes that fill a block -/
theorem BytesAt.of_block {w : World} {g : Nat} {cs : Array Value} {t : TypeId} {fr : Nat × Nat} (h : w.heap[g]? = some (.cells cs t fr)) {bs : List Nat} (hcs : cs = (bs.map fun c : Nat => Value.int .u8 (c : Int)).toArray) :
    BytesAt w (some ⟨g, 0, none⟩) bs := by
  refine Or.inr ⟨g, 0, rfl, block_lt h, fun i hi => ?_⟩
  rw [Nat.zero_add, block_cell h, hcs]
  simp [hi]
theorem PartsAt.of_block {w : World} {g : Nat} {cs : Array Value} {t : TypeId} {fr : Nat × Nat} (h : w.heap[g]? = some (.cells cs t fr)) {ps : List Part} (hcs : cs = (ps.map Part.val).toArray) :
    PartsAt w (some ⟨g, 0, none⟩) ps := by
  refine Or.inr ⟨g, 0, rfl, block_lt h, fun i hi => ?_⟩
  rw [Nat.zero_add, block_cell h, hcs]
  simp [hi]
theorem nine : sumL [[49, 50, 51, 52, 53], [54, 55, 56, 57]] = 3421780262 := by decide +kernel
set_option maxHeartbeats 400000 in
theorem calive_any (w : World) :
    Calls Try.prog 17 #[] w fun e w' => e = .returned (.bool true) ∧ Below w.heap.size w w' := by
  have kc := fun (w : World) (C : Array Value) (n c : Nat) => Lib.run_convert_bytes_const (P := Try.prog) w 28 5 C n c Try.underlying28 Try.underlying5
  have kc2 := fun (O : Obj) (C : Array Value) (n c : Nat) => Joins.run_convert_bytes_const_at (P := Try.prog) (w.alloc O) 28 5 C n c (w.heap.size + 1) (by simp) Try.underlying28 Try.underlying5
  go_enter Try.func17, Try.ntmps17
  go_wp2_with fail
  have H0 := heap_old (heap_old (heap_alloc_new w (.cells #[.int .u8 49, .int .u8 50, .int .u8 51, .int .u8 52, .int .u8 53] 5 (5, 6))) (.cells #[.int .u8 54, .int .u8 55, .int .u8 56, .int .u8 57] 5 (4, 5))) (.cells #[.slice (some ⟨w.heap.size, 0, none⟩) 5 5, .slice (some ⟨w.heap.size + 1, 0, none⟩) 4 4] 28)
  have H1 := heap_old (heap_new1 w (.cells #[.int .u8 49, .int .u8 50, .int .u8 51, .int .u8 52, .int .u8 53] 5 (5, 6)) (.cells #[.int .u8 54, .int .u8 55, .int .u8 56, .int .u8 57] 5 (4, 5))) (.cells #[.slice (some ⟨w.heap.size, 0, none⟩) 5 5, .slice (some ⟨w.heap.size + 1, 0, none⟩) 4 4] 28)
  have H2 := heap_new2 w (.cells #[.int .u8 49, .int .u8 50, .int .u8 51, .int .u8 52, .int .u8 53] 5 (5, 6)) (.cells #[.int .u8 54, .int .u8 55, .int .u8 56, .int .u8 57] 5 (4, 5)) (.cells #[.slice (some ⟨w.heap.size, 0, none⟩) 5 5, .slice (some ⟨w.heap.size + 1, 0, none⟩) 4 4] 28)
  have hs := sum_any (some ⟨w.heap.size + 1 + 1, 0, none⟩) 2 [⟨some ⟨w.heap.size, 0, none⟩, 5, [49, 50, 51, 52, 53]⟩, ⟨some ⟨w.heap.size + 1, 0, none⟩, 4, [54, 55, 56, 57]⟩] _ (by simp) (PartsAt.of_block H2 rfl) (by
    intro p hp
    simp at hp
    rcases hp with rfl | rfl
    · exact ⟨show AllBytes [49, 50, 51, 52, 53] by unfold AllBytes; decide, by simp, BytesAt.of_block H0 rfl, Nat.le_refl _, fun h => by cases h⟩
    · exact ⟨show AllBytes [54, 55, 56, 57] by unfold AllBytes; decide, by simp, BytesAt.of_block H1 rfl, Nat.le_refl _, fun h => by cases h⟩)
  have hb : Below w.heap.size w (((w.alloc (.cells #[.int .u8 49, .int .u8 50, .int .u8 51, .int .u8 52, .int .u8 53] 5 (5, 6))).alloc (.cells #[.int .u8 54, .int .u8 55, .int .u8 56, .int .u8 57] 5 (4, 5))).alloc (.cells #[.slice (some ⟨w.heap.size, 0, none⟩) 5 5, .slice (some ⟨w.heap.size + 1, 0, none⟩) 4 4] 28)) :=
    (((Below.refl _ _).alloc (Nat.le_refl _) _).alloc (by simp) _).alloc (by simp; omega) _
  clear H0 H1 H2 kc kc2
  refine hs.mono ?_
  rintro e w2 ⟨rfl, hb2⟩
  rw [show sumL (List.map Part.bs [⟨some ⟨w.heap.size, 0, none⟩, 5, [49, 50, 51, 52, 53]⟩, ⟨some ⟨w.heap.size + 1, 0, none⟩, 4, [54, 55, 56, 57]⟩]) = 3421780262 from nine]
  have hbe := hb.trans (hb2.mono hb.size)
  clear hb hb2 hs
  go_wp2
  go_ret
  exact ⟨rfl, hbe⟩
end Go.Proofs.Ythmmhbeafbdglaa
