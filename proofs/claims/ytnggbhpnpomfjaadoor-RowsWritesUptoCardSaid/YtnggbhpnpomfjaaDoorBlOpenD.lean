/- From the arguments' readings to what the walks ask: rows of strings. Conditions: none. -/
import Derived.Test.YtnggbhpnpomfjaaDoorBlMuch
import Derived.SliceStrings
import Derived.OpenShut
import Derived.ShutString
import Derived.ChangeOld
import Derived.SizedLaws
import Derived.Deep.Slices
set_option linter.unusedVariables false
namespace Go.Proofs.YtnggbhpnpomfjaaDoor.Bl
open Go.ChangeShapes Go.WideShapes Go.ChangeAt Go.RowKit
theorem i64_of_wf {n : Int} (h : (Lit.int .i64 n).wf = true) : -9223372036854775808 ≤ n ∧ n ≤ 9223372036854775807 := by
  simpa [Lit.wf, IntKind.min, IntKind.max, IntKind.signed, IntKind.bits] using h
theorem byte_of_wf {n : Int} (h : (Lit.int .u8 n).wf = true) : 0 ≤ n ∧ n < 256 := by
  have : 0 ≤ n ∧ n ≤ 255 := by simpa [Lit.wf, IntKind.min, IntKind.max, IntKind.signed, IntKind.bits] using h
  omega
theorem block_lt_of_cell {w : World} {p : Addr} {v : Value} (h : w.cell? p = some v) : p.block < w.heap.size := by
  rcases Nat.lt_or_ge p.block w.heap.size with h' | h'
  · exact h'
  · exfalso
    unfold World.cell? at h
    rw [Array.getElem?_eq_none h'] at h
    simp at h
section
variable {H : Type} {enc : TypeId × Value → H} {P : Program} {w : World} {base : Nat} {spare : Nat → Bool} {held : Bool}
/-- strings that came in -/
theorem open_strs {t e : TypeId} {a : Option Addr} {len cap : Nat} {d : DataW H} {ps : List MemPlace} (ht : P.underlying t = some (.slice e)) (he : P.underlying e = some .string) (ce : P.cellsOf e = 1)
    (h : DataW.Trod enc P w base spare held t (.slice a len cap) d ps) : ∃ ss : List ByteArray, ss.length = len ∧ StrsIn w a cap ss ∧ (ss = [] ∨ ∃ sp, d = .slice (strs ss) sp) := by
  obtain ⟨fuel, hf⟩ := h
  rcases open_strings ht he ce hf with ⟨hcs, _⟩ | ⟨x, l, c, ss, hcs, _, hl, hm, hsl, hx, hcell, hsz⟩
  · simp [Value.cells] at hcs
    obtain ⟨rfl, rfl, rfl⟩ := hcs
    exact ⟨[], rfl, ⟨fun i hi => by simp at hi, Nat.zero_le _⟩, Or.inl rfl⟩
  · simp [Value.cells] at hcs
    obtain ⟨rfl, rfl, rfl⟩ := hcs
    have hlz : len ≤ ss.length := by split at hsl <;> omega
    have hlen : (ss.take len).length = len := by rw [List.length_take]; omega
    have hget : ∀ i, i < len → (ss.take len).getD i ByteArray.empty = ss.getD i ByteArray.empty := fun i hi => by simp [List.getD_eq_getElem?_getD, hi]
    refine ⟨ss.take len, hlen, ⟨fun i hi => ?_, by omega⟩, Or.inr ⟨strs (ss.drop len), by simp only [Prod.mk.injEq] at hx; exact hx.1⟩⟩
    rw [hlen] at hi
    obtain ⟨b, off, spot⟩ := x
    have hc := hcell i (by omega)
    have hspot : spot = none := by
      have := World.cell?_spot (hcell 0 (by omega))
      simpa [Addr.add] using this
    subst hspot
    have hadd : (⟨b, off, none⟩ : Addr).add i = ⟨b, off + i, none⟩ := by unfold Addr.add; split <;> simp_all
    rw [hadd] at hc
    exact ⟨b, off, rfl, block_lt_of_cell hc, by rw [hget i hi]; exact hc⟩
theorem elems_reach {ts : List TypeId} {ds : List (DataW H)} (h : (DataW.weightsEach P ts ds).all (· ≤ reachBytes) = true) {j : Nat} {t e : TypeId} {elems sp : List (DataW H)} (ht : ts[j]? = some t) (hd : ds[j]? = some (.slice elems sp)) (hu : P.underlying t = some (.slice e)) : ∀ n ∈ DataW.weightsAll P e elems, n ≤ reachBytes := by
  intro n hn
  have := List.all_eq_true.1 h _ (DataW.weights_mem_each ht hd n (by simp [DataW.weights, hu, hn]))
  simpa using this
theorem weightsAll_mem {e : TypeId} : ∀ {elems : List (DataW H)} {d : DataW H} {n : Nat}, d ∈ elems → n ∈ d.weights P e → n ∈ DataW.weightsAll P e elems
  | x :: r, d, n, hd, hn => by
    simp only [DataW.weightsAll, List.mem_append]
    rcases List.mem_cons.1 hd with rfl | hd
    · exact Or.inl hn
    · exact Or.inr (weightsAll_mem hd hn)
/-- what the form's own reach says of strings in a row -/
theorem strs_reach {ts : List TypeId} {ds : List (DataW H)} (h : (DataW.weightsEach P ts ds).all (· ≤ reachBytes) = true) {j : Nat} {t e : TypeId} {d : DataW H} {ss : List ByteArray} (ht : ts[j]? = some t) (hd : ds[j]? = some d) (hu : P.underlying t = some (.slice e))
    (hs : ss = [] ∨ ∃ sp, d = .slice (strs ss) sp) : ∀ s ∈ ss, s.size ≤ 140737488355328 := by
  intro s hm
  rcases hs with rfl | ⟨sp, rfl⟩
  · cases hm
  · have := elems_reach h ht hd hu s.size (weightsAll_mem (d := .lit (.string s.data.toList)) (by simp only [strs]; exact List.mem_map.2 ⟨s, hm, rfl⟩) (by simp [DataW.weights, bl_size]))
    unfold reachBytes at this
    omega
end
end Go.Proofs.YtnggbhpnpomfjaaDoor.Bl
