/- Plain laws of lines: which are flat, where the next one that says something stands, what stands between two, and lines folded. Conditions: none; no program. -/
set_option linter.unusedVariables false
namespace Go.Proofs.YtnggbhpnpomfjaaDoor.Bl
def flatL : List UInt8 → Bool
  | [] => false
  | c :: _ => c != 32
def nextN (L : List (List UInt8)) (k : Nat) : Nat := k + (L.drop k).findIdx (fun x => !x.isEmpty)
theorem drop_getD (L : List (List UInt8)) (k : Nat) (h : k < L.length) : L.drop k = L.getD k [] :: L.drop (k + 1) := by
  rw [List.drop_eq_getElem_cons h]
  simp [List.getD_eq_getElem?_getD, h]
theorem nextN_empty {L : List (List UInt8)} {k : Nat} (h : k < L.length) (he : L.getD k [] = []) : nextN L k = nextN L (k + 1) := by
  unfold nextN
  rw [drop_getD L k h, he, List.findIdx_cons]
  simp
  omega
theorem nextN_stop {L : List (List UInt8)} {k : Nat} (h : k < L.length) (he : L.getD k [] ≠ []) : nextN L k = k := by
  unfold nextN
  rw [drop_getD L k h, List.findIdx_cons]
  cases hx : L.getD k [] with
  | nil => exact absurd hx he
  | cons c t => simp
theorem nextN_end (L : List (List UInt8)) : nextN L L.length = L.length := by unfold nextN; simp
theorem nextN_le {L : List (List UInt8)} {k : Nat} (h : k ≤ L.length) : k ≤ nextN L k ∧ nextN L k ≤ L.length := by
  unfold nextN
  have := List.findIdx_le_length (xs := L.drop k) (p := fun x => !x.isEmpty)
  rw [List.length_drop] at this
  omega
theorem nextN_ne {L : List (List UInt8)} {k : Nat} (h : nextN L k < L.length) : L.getD (nextN L k) [] ≠ [] := by
  unfold nextN at h ⊢
  have hlt : (L.drop k).findIdx (fun x => !x.isEmpty) < (L.drop k).length := by rw [List.length_drop]; omega
  have := List.findIdx_getElem (w := hlt)
  rw [List.getElem_drop] at this
  rw [List.getD_eq_getElem?_getD, List.getElem?_eq_getElem h]
  intro e
  simp only [Option.getD_some] at e
  rw [e] at this
  simp at this
/-- what stands between a line and the next one -/
def sepL (L : List (List UInt8)) (k : Nat) : List UInt8 :=
  if (flatL (L.getD k []) && decide (nextN L (k + 1) < L.length) && flatL (L.getD (nextN L (k + 1)) [])) = true then (if nextN L (k + 1) = k + 1 then [32] else []) else [10]
def foldTo (L : List (List UInt8)) : Nat → List UInt8
  | 0 => []
  | k + 1 => foldTo L k ++ (if k = 0 then [] else sepL L (k - 1)) ++ L.getD k []
def foldL (L : List (List UInt8)) : List UInt8 := foldTo L L.length
def bulkL (L : List (List UInt8)) : Nat := (L.map List.length).sum
theorem sepL_le (L : List (List UInt8)) (k : Nat) : (sepL L k).length ≤ 1 := by
  unfold sepL
  split
  · split <;> simp
  · simp
theorem bulk_take (L : List (List UInt8)) (k : Nat) (h : k < L.length) : bulkL (L.take (k + 1)) = bulkL (L.take k) + (L.getD k []).length := by
  have e : L.getD k [] = L[k] := by simp [List.getD_eq_getElem?_getD, h]
  unfold bulkL
  rw [List.take_succ_eq_append_getElem h, List.map_append, List.sum_append, e]
  simp only [List.map_cons, List.map_nil, List.sum_cons, List.sum_nil, Nat.add_zero]
theorem bulk_take_le (L : List (List UInt8)) (k : Nat) : bulkL (L.take k) ≤ bulkL L := by
  unfold bulkL
  conv => rhs; rw [← List.take_append_drop k L]
  rw [List.map_append, List.sum_append]
  omega
theorem foldTo_le (L : List (List UInt8)) : ∀ k, k ≤ L.length → (foldTo L k).length ≤ bulkL (L.take k) + k
  | 0, _ => by simp [foldTo, bulkL]
  | k + 1, h => by
    have ih := foldTo_le L k (by omega)
    have hb := bulk_take L k (by omega)
    simp only [foldTo, List.length_append]
    have hs := sepL_le L (k - 1)
    by_cases k0 : k = 0
    · rw [if_pos k0, List.length_nil]; omega
    · rw [if_neg k0]; omega
theorem line_le (L : List (List UInt8)) (k : Nat) (h : k < L.length) : (L.getD k []).length ≤ bulkL L := by
  have h1 := bulk_take L k h
  have h2 := bulk_take_le L (k + 1)
  omega
end Go.Proofs.YtnggbhpnpomfjaaDoor.Bl
