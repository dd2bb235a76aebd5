/- Strings that lie in a row; is a line flat. Conditions: none beyond the model's bounds. -/
import Derived.Test.YtnggbhpnpomfjaaDoorBlPure
import Derived.Test.YtnggbhpnpomfjaaDoorProg
import Derived.WalkKit
import Derived.Below
import Derived.BigQuiet
import Derived.Deep.QuietTactic
import Derived.Deep.LoopGhost
import Derived.Deep.DeepCutAuto
import Derived.Deep.RegionHeld3
import Derived.IntWalk
import Derived.Lib.Hide
import Derived.Lib.IndexBytes
import Derived.Laws.Tables
import Derived.Laws.AppendOwn
import Derived.ProofKit
set_option linter.unusedVariables false
namespace Go.Proofs.YtnggbhpnpomfjaaDoor.Bl
open Go.RowKit
theorem bl_block_lt {w : World} {i : Nat} {o : Obj} (h : w.heap[i]? = some o) : i < w.heap.size := (Array.getElem?_eq_some_iff.1 h).1
theorem bl_block_cell {w : World} {g : Nat} {cs : Array Value} {t : TypeId} {fr : Nat × Nat} (h : w.heap[g]? = some (.cells cs t fr)) (i : Nat) : w.cell? ⟨g, i, none⟩ = cs[i]? := by
  simp [World.cell?, h]
theorem bl_block_free {w : World} {g : Nat} {cs : Array Value} {t : TypeId} (h : w.heap[g]? = some (.cells cs t (0, 0))) (i : Nat) : w.frozen? ⟨g, i, none⟩ = false := by
  simp [World.frozen?, h]
theorem bl_block_set {w : World} {g : Nat} {cs : Array Value} {t : TypeId} (h : w.heap[g]? = some (.cells cs t (0, 0))) (i : Nat) (v : Value) :
    (w.setCell ⟨g, i, none⟩ v).heap[g]? = some (.cells (cs.setIfInBounds i v) t (0, 0)) := by
  simp [World.setCell, Array.getElem?_modify, h]
theorem bl_dr {B : Nat} {a w : World} (h : Below B a w) (n : Nat) : Below B a (w.drewN n) := h.trans ⟨rfl, rfl, rfl, Nat.le_refl _, fun _ _ => rfl⟩
/-- a string's bytes -/
def lns (ss : List ByteArray) : List (List UInt8) := ss.map fun s => s.data.toList
theorem lns_length (ss : List ByteArray) : (lns ss).length = ss.length := by simp [lns]
theorem lns_at (ss : List ByteArray) (k : Nat) (h : k < ss.length) : (lns ss).getD k [] = (ss.getD k ByteArray.empty).data.toList := by
  simp [lns, List.getD_eq_getElem?_getD, h]
/-- strings that lie in a row -/
structure StrsIn (w : World) (A : Option Addr) (c : Nat) (ss : List ByteArray) : Prop where
  at_ : ∀ i, i < ss.length → ∃ b off, A = some ⟨b, off, none⟩ ∧ b < w.heap.size ∧ w.cell? ⟨b, off + i, none⟩ = some (.string (ss.getD i ByteArray.empty))
  cap : ss.length ≤ c
theorem StrsIn.below {w w' : World} {A : Option Addr} {c : Nat} {ss : List ByteArray} (g : StrsIn w A c ss) (hb : Below w.heap.size w w') : StrsIn w' A c ss :=
  ⟨fun i hi => by
    obtain ⟨b, off, h1, h2, h3⟩ := g.at_ i hi
    exact ⟨b, off, h1, Nat.lt_of_lt_of_le h2 hb.size, (hb.cell (p := ⟨b, off + i, none⟩) h2).trans h3⟩, g.cap⟩
theorem index_zero (s : ByteArray) (h : 0 < s.size) : ∀ W, (Instr.index 9 (.string s) (.int .i64 0)).run Tryd.prog W = .ok (.int .u8 ((s[0]'h).toNat : Int)) W := by
  intro W
  rw [run_index_string W 9 s .i64 _ Tryd.underlying9, dif_pos ⟨by omega, by omega⟩]
  rfl
theorem empty_facts {s : ByteArray} (h : s.data.toList = []) : s.toList = [] ∧ s.toList.isEmpty = true ∧ (s.toList == []) = true ∧ (!s.toList.isEmpty) = false ∧ (!(s.toList == [])) = false := by
  rw [Lib.toList_data, h]; exact ⟨rfl, rfl, rfl, rfl, rfl⟩
theorem nonempty_facts {s : ByteArray} (h : s.data.toList ≠ []) : s.toList.isEmpty = false ∧ (s.toList == []) = false ∧ (!s.toList.isEmpty) = true ∧ (!(s.toList == [])) = true ∧ 0 < s.size := by
  rw [Lib.toList_data]
  have hs : 0 < s.data.toList.length := List.length_pos_iff.2 h
  cases hx : s.data.toList with
  | nil => exact absurd hx h
  | cons c t => exact ⟨rfl, rfl, rfl, rfl, hs⟩
theorem flat_byte {s : ByteArray} (h : 0 < s.size) : flatL s.data.toList = (((s[0]'h).toNat : Int) != 32) := by
  have hl : 0 < s.data.toList.length := h
  cases hx : s.data.toList with
  | nil => rw [hx] at hl; simp at hl
  | cons c t =>
    have e : s[0]'h = c := by
      have h1 : s.data.toList[0]'hl = c := by simp [hx]
      rw [← h1]; rfl
    rw [e]
    simp only [flatL]
    by_cases hc : c = 32
    · subst hc; rfl
    · have h2 : (c != 32) = true := by simpa using hc
      have h3 : ((c.toNat : Int) != 32) = true := by
        rw [bne_iff_ne]
        intro h4
        apply hc
        have h5 : c.toNat = 32 := by omega
        exact UInt8.toNat_inj.1 h5
      rw [h2, h3]
set_option maxHeartbeats 400000 in
theorem flat_any (s : ByteArray) (w : World) : Calls Tryd.prog 108 #[.string s] w fun e w' => e = .returned (.bool (flatL s.data.toList)) ∧ w = w' := by
  by_cases h : s.data.toList = []
  · obtain ⟨h1, h2, h3, h4, h5⟩ := empty_facts h
    have HF : Hid (flatL s.data.toList = false) := by show _ = _; rw [h]; rfl
    clear h
    go_enter Tryd.func108, Tryd.ntmps108
    go_wp2
    go_ret
    exact ⟨by rw [HF.out]; rfl, rfl⟩
  · obtain ⟨h1, h2, h3, h4, h5⟩ := nonempty_facts h
    have HF := Lib.hid (flat_byte h5)
    have hix := index_zero s h5
    obtain ⟨q, hq⟩ : ∃ q, (((s[0]'h5).toNat : Int) != 32) = q := ⟨_, rfl⟩
    rw [hq] at HF
    generalize (s[0]'h5).toNat = c at hq hix
    clear h
    cases q
    all_goals
      go_enter Tryd.func108, Tryd.ntmps108
      go_wp2
      go_ret
      exact ⟨by rw [HF.out]; rfl, rfl⟩
end Go.Proofs.YtnggbhpnpomfjaaDoor.Bl
