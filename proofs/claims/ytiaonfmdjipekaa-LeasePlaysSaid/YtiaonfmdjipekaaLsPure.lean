/- Plain laws of a heap in a list: what container/heap's up and down make of it. Conditions: none; no program. -/
set_option linter.unusedVariables false
namespace Go.Proofs.Ytiaonfmdjipekaa.Ls
/-- an entry: its block, its number, until when it holds -/
structure Ent where
  blk : Nat
  id : Int
  til : Int
deriving DecidableEq
def ent0 : Ent := ⟨0, 0, 0⟩
def lessE (a b : Ent) : Bool := decide (a.til < b.til) || (decide (a.til = b.til) && decide (a.id < b.id))
def swapL (l : List Ent) (i j : Nat) : List Ent := (l.set i (l.getD j ent0)).set j (l.getD i ent0)
theorem swapL_len (l : List Ent) (i j : Nat) : (swapL l i j).length = l.length := by simp [swapL]
theorem swapL_get (l : List Ent) {i j : Nat} (hi : i < l.length) (hj : j < l.length) (k : Nat) : (swapL l i j).getD k ent0 = if k = j then l.getD i ent0 else if k = i then l.getD j ent0 else l.getD k ent0 := by
  unfold swapL
  by_cases h1 : k = j
  · subst h1
    rw [if_pos rfl]
    simp [List.getD_eq_getElem?_getD, List.getElem?_set, hj]
  · rw [if_neg h1]
    by_cases h2 : k = i
    · subst h2
      rw [if_pos rfl]
      have h1' : ¬ j = k := fun e => h1 e.symm
      simp [List.getD_eq_getElem?_getD, List.getElem?_set, h1', hi]
    · rw [if_neg h2]
      have h1' : ¬ j = k := fun e => h1 e.symm
      have h2' : ¬ i = k := fun e => h2 e.symm
      simp [List.getD_eq_getElem?_getD, List.getElem?_set, h1', h2']
def upL : Nat → List Ent → Nat → List Ent
  | 0, l, _ => l
  | f + 1, l, j => if (j - 1) / 2 = j then l else if lessE (l.getD j ent0) (l.getD ((j - 1) / 2) ent0) = true then upL f (swapL l ((j - 1) / 2) j) ((j - 1) / 2) else l
def childL (l : List Ent) (i n : Nat) : Nat := if 2 * i + 2 < n ∧ lessE (l.getD (2 * i + 2) ent0) (l.getD (2 * i + 1) ent0) = true then 2 * i + 2 else 2 * i + 1
def downL : Nat → List Ent → Nat → Nat → List Ent × Nat
  | 0, l, i, _ => (l, i)
  | f + 1, l, i, n => if 2 * i + 1 < n then (if lessE (l.getD (childL l i n) ent0) (l.getD i ent0) = true then downL f (swapL l i (childL l i n)) (childL l i n) n else (l, i)) else (l, i)
theorem childL_lt {l : List Ent} {i n : Nat} (h : 2 * i + 1 < n) : i < childL l i n ∧ childL l i n < n := by
  unfold childL
  split
  · omega
  · omega
theorem upL_len : ∀ (f : Nat) (l : List Ent) (j : Nat), (upL f l j).length = l.length
  | 0, l, j => rfl
  | f + 1, l, j => by
    unfold upL
    split
    · rfl
    · split
      · rw [upL_len f, swapL_len]
      · rfl
theorem downL_len : ∀ (f : Nat) (l : List Ent) (i n : Nat), (downL f l i n).1.length = l.length
  | 0, l, i, n => rfl
  | f + 1, l, i, n => by
    unfold downL
    split
    · split
      · rw [downL_len f, swapL_len]
      · rfl
    · rfl
theorem swapL_perm (l : List Ent) {i j : Nat} (hi : i < l.length) (hj : j < l.length) : (swapL l i j).Perm l := by
  unfold swapL
  rw [List.getD_eq_getElem?_getD, List.getD_eq_getElem?_getD, List.getElem?_eq_getElem hi, List.getElem?_eq_getElem hj]
  simp only [Option.getD_some]
  exact List.set_set_perm hi hj
theorem upL_perm : ∀ (f : Nat) (l : List Ent) (j : Nat), j < l.length → (upL f l j).Perm l
  | 0, l, j, _ => List.Perm.refl _
  | f + 1, l, j, h => by
    unfold upL
    split
    · exact List.Perm.refl _
    · split
      · have h1 : (j - 1) / 2 < l.length := by omega
        exact (upL_perm f _ _ (by rw [swapL_len]; exact h1)).trans (swapL_perm l h1 h)
      · exact List.Perm.refl _
theorem downL_perm : ∀ (f : Nat) (l : List Ent) (i n : Nat), n ≤ l.length → (downL f l i n).1.Perm l
  | 0, l, i, n, _ => List.Perm.refl _
  | f + 1, l, i, n, h => by
    unfold downL
    split
    · rename_i h1
      have hc := childL_lt (l := l) h1
      split
      · exact (downL_perm f _ _ _ (by rw [swapL_len]; exact h)).trans (swapL_perm l (by omega) (by omega))
      · exact List.Perm.refl _
    · exact List.Perm.refl _
/-- beyond n nothing turns -/
theorem upL_far : ∀ (f : Nat) (l : List Ent) (j k : Nat), j < l.length → j < k → (upL f l j).getD k ent0 = l.getD k ent0
  | 0, l, j, k, _, _ => rfl
  | f + 1, l, j, k, h, hk => by
    unfold upL
    split
    · rfl
    · split
      · rw [upL_far f _ _ _ (by rw [swapL_len]; omega) (by omega), swapL_get l (by omega) h, if_neg (by omega), if_neg (by omega)]
      · rfl
theorem downL_far : ∀ (f : Nat) (l : List Ent) (i n k : Nat), n ≤ l.length → n ≤ k → (downL f l i n).1.getD k ent0 = l.getD k ent0
  | 0, l, i, n, k, _, _ => rfl
  | f + 1, l, i, n, k, h, hk => by
    unfold downL
    split
    · rename_i h1
      have hc := childL_lt (l := l) h1
      split
      · rw [downL_far f _ _ _ _ (by rw [swapL_len]; exact h) hk, swapL_get l (by omega) (by omega), if_neg (by omega), if_neg (by omega)]
      · rfl
    · rfl
end Go.Proofs.Ytiaonfmdjipekaa.Ls
