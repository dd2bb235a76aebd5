/- Plain laws of lines that may not stand in a block, byte by byte. Conditions: none. -/
import Derived.Test.YtnggbhpnpomfjaaDoorBlLay
set_option linter.unusedVariables false
namespace Go.Proofs.YtnggbhpnpomfjaaDoor.Bl
open Go.RowKit
/-- how many blanks begin a line -/
def blanks (x : List UInt8) : Nat := (x.takeWhile (fun c => c == 32)).length
theorem blanks_le (x : List UInt8) : blanks x ≤ x.length := by
  unfold blanks
  have := congrArg List.length (List.takeWhile_append_dropWhile (p := fun c : UInt8 => c == 32) (l := x))
  rw [List.length_append] at this
  omega
theorem trim_drop (x : List UInt8) : Lib.trimLeftB x 32 = x.drop (blanks x) := by
  unfold Lib.trimLeftB blanks
  conv => rhs; arg 2; rw [← List.takeWhile_append_dropWhile (p := fun c : UInt8 => c == 32) (l := x)]
  rw [List.drop_left]
theorem prefix_nine (l : List UInt8) : Lib.hasPrefix l [9] = decide (l[0]? = some 9) := by
  unfold Lib.hasPrefix
  cases l with
  | nil => rfl
  | cons c t =>
    by_cases h : c = 9
    · subst h; simp
    · have : ¬ (9 = c) := fun e => h e.symm
      simp [List.isPrefixOf, h, this]
theorem suffix_blank (l : List UInt8) : Lib.hasSuffix l [32] = decide (l.getLast? = some 32) := by
  unfold Lib.hasSuffix
  rw [List.isSuffixOf, List.getLast?_eq_head?_reverse]
  show ([32] : List UInt8).isPrefixOf l.reverse = _
  cases l.reverse with
  | nil => rfl
  | cons c t =>
    by_cases h : c = 32
    · subst h; simp
    · have : ¬ (32 = c) := fun e => h e.symm
      simp [List.isPrefixOf, h, this]
/-- a bad line, by its bytes -/
theorem bad_bytes (x : List UInt8) : badLine x = (decide (x[x.length - 1]? = some 32) || decide (x[blanks x]? = some 9)) := by
  unfold badLine
  rw [suffix_blank, prefix_nine, trim_drop, List.getElem?_drop, Nat.add_zero, List.getLast?_eq_getElem?]
theorem blanks_step {x : List UInt8} {j : Nat} (h : ∀ i, i < j → x[i]? = some 32) (hn : x[j]? ≠ some 32) : blanks x = j := by
  unfold blanks
  induction j generalizing x with
  | zero =>
    cases x with
    | nil => rfl
    | cons c t =>
      have hc : c ≠ 32 := fun e => hn (by simp [e])
      rw [List.takeWhile_cons_of_neg (by simpa using hc)]
      rfl
  | succ j ih =>
    cases x with
    | nil => have := h 0 (by omega); simp at this
    | cons c t =>
      have h0 := h 0 (by omega)
      simp only [List.getElem?_cons_zero, Option.some.injEq] at h0
      subst h0
      rw [List.takeWhile_cons_of_pos (by simp), List.length_cons, ih (fun i hi => by have := h (i + 1) (by omega); simpa using this) (by simpa using hn)]
/-- the first line that is not empty -/
def firstT (L : List (List UInt8)) : List UInt8 := (L.find? (fun x => !x.isEmpty)).getD []
theorem head_first : ∀ l : List UInt8, flatL (headT l) = flatL (firstT (splitT l))
  | [] => rfl
  | c :: t => by
    have ih := head_first t
    rw [show splitT (c :: t) = if c = 10 then [] :: splitT t else (c :: (splitT t).headD []) :: (splitT t).tail from rfl]
    by_cases h : c = 10
    · subst h
      rw [if_pos rfl]
      have e1 : headT (10 :: t) = headT t := by unfold headT Lib.trimLeftB; rw [List.dropWhile_cons_of_pos (by simp)]
      have e2 : firstT ([] :: splitT t) = firstT (splitT t) := by unfold firstT; rw [List.find?_cons_of_neg (by simp)]
      rw [e1, e2, ih]
    · rw [if_neg h]
      have e1 : headT (c :: t) = c :: t := by unfold headT Lib.trimLeftB; rw [List.dropWhile_cons_of_neg (by simpa using h)]
      have e2 : firstT ((c :: (splitT t).headD []) :: (splitT t).tail) = c :: (splitT t).headD [] := by unfold firstT; rw [List.find?_cons_of_pos (by simp)]; rfl
      rw [e1, e2]
      rfl
theorem firstT_snoc (L : List (List UInt8)) (x : List UInt8) : firstT (L ++ [x]) = if firstT L = [] then x else firstT L := by
  unfold firstT
  rw [List.find?_append]
  cases h : L.find? (fun x => !x.isEmpty) with
  | none =>
    simp only [Option.none_or, Option.getD_none, if_true]
    by_cases hx : x = []
    · subst hx; rfl
    · rw [List.find?_cons_of_pos (by simpa using hx)]; rfl
  | some y =>
    have hy := List.find?_some h
    have hne : y ≠ [] := by intro e; subst e; simp at hy
    simp [hne]
theorem index_neg : ∀ (l : List UInt8) (c : UInt8), (Lib.indexByte l c < 0) ↔ c ∉ l
  | [], c => by simp [Lib.indexByte]
  | b :: l, c => by
    have ih := index_neg l c
    have hg := Lib.indexByte_ge l c
    unfold Lib.indexByte
    by_cases h : b = c
    · subst h; simp
    · have h' : ¬ (c = b) := fun e => h e.symm
      rw [if_neg (by simpa using h)]
      by_cases hm : Lib.indexByte l c = -1
      · rw [if_pos (by simpa using hm)]
        have := ih.1 (by omega)
        simp [this, h']
      · rw [if_neg (by simpa using hm)]
        have h2 : c ∈ l := by
          rcases Decidable.em (c ∈ l) with h3 | h3
          · exact h3
          · exact absurd (ih.2 h3) (by omega)
        simp [h2]
        omega
end Go.Proofs.YtnggbhpnpomfjaaDoor.Bl
