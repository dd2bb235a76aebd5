/- Plain laws of a text's lines: one more than it has bytes 10; the library's Split gives them. Conditions: none; no program. -/
import Derived.Lib.SplitLaws
set_option linter.unusedVariables false
namespace Go.Proofs.YtnggbhpnpomfjaaDoor.Bl
/-- a text's lines -/
def splitT : List UInt8 → List (List UInt8)
  | [] => [[]]
  | c :: t => if c = 10 then [] :: splitT t else (c :: (splitT t).headD []) :: (splitT t).tail
theorem splitT_ne (l : List UInt8) : splitT l ≠ [] := by
  cases l with
  | nil => simp [splitT]
  | cons c t => unfold splitT; split <;> simp
theorem splitT_len : ∀ l : List UInt8, (splitT l).length = l.count 10 + 1
  | [] => rfl
  | c :: t => by
    have ih := splitT_len t
    unfold splitT
    by_cases h : c = 10
    · subst h
      rw [if_pos rfl, List.length_cons, ih, List.count_cons_self]
    · rw [if_neg h, List.length_cons, List.length_tail, ih, List.count_cons_of_ne h]
      omega
theorem splitT_none : ∀ {l : List UInt8}, 10 ∉ l → splitT l = [l]
  | [], _ => rfl
  | c :: t, h => by
    have hc : ¬ c = 10 := fun e => h (by simp [e])
    have ih := splitT_none (l := t) (fun hm => h (by simp [hm]))
    unfold splitT
    rw [if_neg hc, ih]
    rfl
theorem splitT_first : ∀ (p t : List UInt8), 10 ∉ p → splitT (p ++ 10 :: t) = p :: splitT t
  | [], t, _ => by simp [splitT]
  | c :: p, t, h => by
    have hc : ¬ c = 10 := fun e => h (by simp [e])
    have ih := splitT_first p t (fun hm => h (by simp [hm]))
    rw [List.cons_append, show splitT (c :: (p ++ 10 :: t)) = if c = 10 then [] :: splitT (p ++ 10 :: t) else (c :: (splitT (p ++ 10 :: t)).headD []) :: (splitT (p ++ 10 :: t)).tail from rfl, if_neg hc, ih]
    rfl
theorem index_ten : ∀ l : List UInt8, (Lib.index l [10] = -1 ∧ 10 ∉ l) ∨ ∃ p t, l = p ++ 10 :: t ∧ 10 ∉ p ∧ Lib.index l [10] = p.length
  | [] => Or.inl ⟨rfl, by simp⟩
  | c :: t => by
    by_cases hc : c = 10
    · subst hc
      refine Or.inr ⟨[], t, rfl, by simp, ?_⟩
      unfold Lib.index
      rw [if_pos (by simp [List.isPrefixOf])]
      rfl
    · have hp : ¬ (([10] : List UInt8).isPrefixOf (c :: t) = true) := by
        intro h
        have := List.isPrefixOf_iff_prefix.1 h
        obtain ⟨r, hr⟩ := this
        injection hr with h1 _
        exact hc h1.symm
      rcases index_ten t with ⟨h1, h2⟩ | ⟨p, u, h1, h2, h3⟩
      · left
        refine ⟨?_, by simp [h2]; exact fun e => hc e.symm⟩
        unfold Lib.index
        rw [if_neg hp, h1]
        rfl
      · right
        refine ⟨c :: p, u, by rw [h1]; rfl, by simp [h2]; exact fun e => hc e.symm, ?_⟩
        unfold Lib.index
        rw [if_neg hp, h3, if_neg (by simp)]
        simp
theorem splitK_all : ∀ (n : Nat) (l : List UInt8), l.count 10 = n → Lib.splitK [10] 0 n l = splitT l
  | 0, l, h => by
    rw [splitT_none (List.count_eq_zero.1 h)]
    rfl
  | n + 1, l, h => by
    rcases index_ten l with ⟨_, h2⟩ | ⟨p, t, rfl, hp, hi⟩
    · rw [List.count_eq_zero.2 h2] at h; cases h
    · have hc : t.count 10 = n := by
        rw [List.count_append, List.count_cons_self, List.count_eq_zero.2 hp] at h
        omega
      unfold Lib.splitK
      rw [hi, if_neg (by simp), splitT_first p t hp]
      have e1 : (p ++ 10 :: t).take (((p.length : Int)).toNat + 0) = p := by simp
      have e2 : (p ++ 10 :: t).drop (((p.length : Int)).toNat + ([10] : List UInt8).length) = t := by
        rw [Int.toNat_natCast, show p.length + ([10] : List UInt8).length = (p ++ [10]).length by simp, show p ++ 10 :: t = (p ++ [10]) ++ t by simp, List.drop_left]
      rw [e1, e2, splitK_all n t hc]
theorem split_lines (l : List UInt8) : Lib.splitK [10] 0 (Lib.count l [10]) l = splitT l := by
  rw [Lib.count_one]
  exact splitK_all _ l rfl
/-- lines put together again -/
theorem splitT_last : ∀ l : List UInt8, l ≠ [] → ((splitT l).getLastD [] = [] ↔ l.getLast? = some 10)
  | [], h => absurd rfl h
  | [c], _ => by
    by_cases hc : c = 10
    · subst hc; simp [splitT]
    · simp [splitT, hc]
  | c :: d :: t, _ => by
    have ih := splitT_last (d :: t) (by simp)
    have hne := splitT_ne (d :: t)
    have hl : (splitT (c :: d :: t)).getLastD [] = if c ≠ 10 ∧ (splitT (d :: t)).length = 1 then c :: (splitT (d :: t)).headD [] else (splitT (d :: t)).getLastD [] := by
      rw [show splitT (c :: d :: t) = if c = 10 then [] :: splitT (d :: t) else (c :: (splitT (d :: t)).headD []) :: (splitT (d :: t)).tail from rfl]
      generalize splitT (d :: t) = L at hne
      cases L with
      | nil => exact absurd rfl hne
      | cons x r =>
        by_cases hc : c = 10
        · subst hc; simp
        · rw [if_neg hc]
          cases r with
          | nil => simp [hc]
          | cons y r => simp
    have hg : (c :: d :: t).getLast? = (d :: t).getLast? := by simp [List.getLast?_cons_cons]
    rw [hl, hg, ← ih]
    by_cases h1 : c ≠ 10 ∧ (splitT (d :: t)).length = 1
    · rw [if_pos h1]
      have hn : 10 ∉ (d :: t) := by
        have := splitT_len (d :: t)
        rw [h1.2] at this
        exact List.count_eq_zero.1 (by omega)
      rw [splitT_none hn]
      simp
    · rw [if_neg h1]
end Go.Proofs.YtnggbhpnpomfjaaDoor.Bl
