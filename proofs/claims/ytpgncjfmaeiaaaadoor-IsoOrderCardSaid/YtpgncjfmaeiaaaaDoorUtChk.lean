/- Walks: where a text has a sign that is not printable, how many signs there are, the program's and the document's; and which signs the document prints. Conditions: strings within the model's bounds; the decoder's two tables as they are laid. -/
import Derived.Test.YtpgncjfmaeiaaaaDoorUtREnc
import Derived.Laws.Tables
set_option linter.unusedVariables false
namespace Go.Proofs.YtpgncjfmaeiaaaaDoor
open Go.RowKit
theorem block_lt {w : World} {i : Nat} {o : Obj} (h : w.heap[i]? = some o) : i < w.heap.size := (Array.getElem?_eq_some_iff.1 h).1
theorem block_cell {w : World} {g : Nat} {cs : Array Value} {t : TypeId} {fr : Nat × Nat} (h : w.heap[g]? = some (.cells cs t fr)) (i : Nat) : w.cell? ⟨g, i, none⟩ = cs[i]? := by
  simp [World.cell?, h]
theorem block_free {w : World} {g : Nat} {cs : Array Value} {t : TypeId} (h : w.heap[g]? = some (.cells cs t (0, 0))) (i : Nat) : w.frozen? ⟨g, i, none⟩ = false := by
  simp [World.frozen?, h]
theorem block_set {w : World} {g : Nat} {cs : Array Value} {t : TypeId} (h : w.heap[g]? = some (.cells cs t (0, 0))) (i : Nat) (v : Value) :
    (w.setCell ⟨g, i, none⟩ v).heap[g]? = some (.cells (cs.setIfInBounds i v) t (0, 0)) := by
  simp [World.setCell, Array.getElem?_modify, h]
theorem setRow_below (w : World) {B g : Nat} (h : B ≤ g) (cs : Array Value) : Below B w (w.setRow g cs) :=
  ⟨rfl, rfl, rfl, by simp [World.setRow], fun k hk => by simp only [World.setRow, Array.getElem?_modify]; rw [if_neg (by omega)]⟩
/-- a block that the call has made, and that other memory stands -/
def Kept (w w2 : World) (t : TypeId) (cs : Array Value) : Prop := w2.heap[w.heap.size]? = some (.cells cs t (0, 0)) ∧ Below w.heap.size w w2
theorem Kept.first (w : World) (t : TypeId) (cs : Array Value) : Kept w (w.alloc (.cells cs t)) t cs := ⟨heap_alloc_new _ _, (Below.refl _ _).alloc (Nat.le_refl _) _⟩
theorem Kept.below {w w2 w3 : World} {t : TypeId} {cs : Array Value} (h : Kept w w2 t cs) (hb : Below w2.heap.size w2 w3) : Kept w w3 t cs := ⟨(hb.block _ (block_lt h.1)).trans h.1, h.2.trans (hb.mono h.2.size)⟩
theorem Kept.set {w w2 : World} {t : TypeId} {cs : Array Value} (h : Kept w w2 t cs) (ds : Array Value) : Kept w (w2.setRow w.heap.size ds) t ds := ⟨setRow_heap _ _ _ _ _ _ h.1, h.2.trans (setRow_below w2 (Nat.le_refl _) ds)⟩
theorem Kept.cell {w w2 : World} {t : TypeId} {cs : Array Value} (h : Kept w w2 t cs) (i : Nat) : w2.cell? ⟨w.heap.size, i, none⟩ = cs[i]? := block_cell h.1 i
theorem two_one (a b : Int) : (#[Value.int .i64 a, Value.int .i64 b]).all (·.oneCell') = true := by simp [Value.oneCell']
theorem printB_pos {n : Int} (h : printB n = true) : 0 ≤ n := by
  unfold printB at h
  split at h
  · rw [decide_eq_true_iff] at h; omega
  · omega
def allB (_ : Int) : Bool := true
end Go.Proofs.YtpgncjfmaeiaaaaDoor
