/- Plain laws of a text's pieces (a line with its end), and of its lines (without). Conditions: none; no program. -/
import Derived.Test.YtnggbhpnpomfjaaDoorBlLayPure
set_option linter.unusedVariables false
namespace Go.Proofs.YtnggbhpnpomfjaaDoor.Rw
open Bl
/-- a text's lines, each with its end -/
def piecesT (l : List UInt8) : List (List UInt8) := ((splitT l).dropLast.map (· ++ [10])) ++ (if (splitT l).getLastD [] = [] then [] else [(splitT l).getLastD []])
def cut13 (p : List UInt8) : List UInt8 := Lib.trimSuffix p [13]
def cutEnd (x : List UInt8) : List UInt8 := if Lib.hasSuffix x [10] = true then cut13 (Lib.trimSuffix x [10]) else x
/-- a text's lines, without their ends -/
def linesL (l : List UInt8) : List (List UInt8) := ((splitT l).dropLast.map cut13) ++ (if (splitT l).getLastD [] = [] then [] else [(splitT l).getLastD []])
theorem pieces_nil : piecesT [] = [] := rfl
theorem split_no : ∀ (l : List UInt8), ∀ x ∈ splitT l, 10 ∉ x
  | [], x, h => by
    have : x = [] := by simpa [splitT] using h
    subst this; simp
  | c :: t, x, h => by
    have ih := split_no t
    have hne := splitT_ne t
    rw [show splitT (c :: t) = if c = 10 then [] :: splitT t else (c :: (splitT t).headD []) :: (splitT t).tail from rfl] at h
    cases hs : splitT t with
    | nil => exact absurd hs hne
    | cons y r =>
      rw [hs] at h ih
      by_cases hc : c = 10
      · rw [if_pos hc] at h
        rcases List.mem_cons.1 h with rfl | h
        · simp
        · exact ih x h
      · rw [if_neg hc] at h
        rcases List.mem_cons.1 h with rfl | h
        · have := ih y (by simp)
          simp [this]; exact fun e => hc e.symm
        · exact ih x (by simp at h; simp [h])
theorem pieces_step (p t : List UInt8) (h : 10 ∉ p) : piecesT (p ++ 10 :: t) = (p ++ [10]) :: piecesT t := by
  unfold piecesT
  rw [splitT_first p t h]
  have hne := splitT_ne t
  cases hs : splitT t with
  | nil => exact absurd hs hne
  | cons y r => simp
theorem pieces_last (l : List UInt8) (h : 10 ∉ l) (hl : l ≠ []) : piecesT l = [l] := by
  unfold piecesT
  rw [splitT_none h]
  simp [hl]
theorem suffix_ten (x : List UInt8) (b : UInt8) : Lib.hasSuffix (x ++ [b]) [b] = true := by
  unfold Lib.hasSuffix
  rw [List.isSuffixOf_iff_suffix]
  exact List.suffix_append x [b]
theorem suffix_no {x : List UInt8} {b : UInt8} (h : b ∉ x) : Lib.hasSuffix x [b] = false := by
  cases hb : Lib.hasSuffix x [b] with
  | false => rfl
  | true =>
    exfalso
    unfold Lib.hasSuffix at hb
    rw [List.isSuffixOf_iff_suffix] at hb
    exact h (hb.subset (by simp))
theorem cut_ten (x : List UInt8) (b : UInt8) : Lib.trimSuffix (x ++ [b]) [b] = x := by
  unfold Lib.trimSuffix
  rw [if_pos (suffix_ten x b)]
  simp
theorem last_no (l : List UInt8) : 10 ∉ (splitT l).getLastD [] := by
  have h := List.getLastD_mem_cons (l := splitT l) (a := [])
  rcases List.mem_cons.1 h with h | h
  · rw [h]; simp
  · exact split_no l _ h
theorem pieces_cut (l : List UInt8) : (piecesT l).map cutEnd = linesL l := by
  unfold piecesT linesL
  rw [List.map_append, List.map_map]
  congr 1
  · apply List.map_congr_left
    intro x _
    show cutEnd (x ++ [10]) = cut13 x
    unfold cutEnd
    rw [if_pos (suffix_ten x 10), cut_ten]
  · split
    · rfl
    · have h2 := suffix_no (last_no l)
      rw [List.map_cons, List.map_nil]
      unfold cutEnd
      rw [if_neg (by rw [h2]; simp)]
theorem index_byte_ten : ∀ l : List UInt8, (Lib.indexByte l 10 = -1 ∧ 10 ∉ l) ∨ ∃ p t, l = p ++ 10 :: t ∧ 10 ∉ p ∧ Lib.indexByte l 10 = p.length
  | [] => Or.inl ⟨rfl, by simp⟩
  | c :: t => by
    by_cases hc : c = 10
    · subst hc
      refine Or.inr ⟨[], t, rfl, by simp, ?_⟩
      unfold Lib.indexByte
      simp
    · rcases index_byte_ten t with ⟨h1, h2⟩ | ⟨p, u, h1, h2, h3⟩
      · left
        refine ⟨?_, by simp [h2]; exact fun e => hc e.symm⟩
        unfold Lib.indexByte
        rw [if_neg (by simpa using hc), h1]
        rfl
      · right
        refine ⟨c :: p, u, by rw [h1]; rfl, by simp [h2]; exact fun e => hc e.symm, ?_⟩
        unfold Lib.indexByte
        rw [if_neg (by simpa using hc), h3, if_neg (by simp)]
        simp
theorem pieces_sum : ∀ l : List UInt8, ((piecesT l).map List.length).sum = l.length := by
  intro l
  generalize hn : l.length = n
  induction n using Nat.strongRecOn generalizing l with
  | _ n ih =>
    rcases index_ten l with ⟨_, h⟩ | ⟨p, t, rfl, hp, _⟩
    · by_cases hl : l = []
      · subst hl; simp [pieces_nil] at *; omega
      · rw [pieces_last l h hl]; simp [hn]
    · rw [pieces_step p t hp]
      have h1 := ih t.length (by subst hn; simp; omega) t rfl
      simp only [List.map_cons, List.sum_cons, h1]
      subst hn
      simp; omega
end Go.Proofs.YtnggbhpnpomfjaaDoor.Rw
