/- Rows of strings of the call's own: read, kept, appended to (for seat D; on seat B the same stands in BlRLines). A text's lines, byte by byte. Conditions: none. -/
import Derived.Test.YtnggbhpnpomfjaaDoorBlAlive
import Derived.Test.YtnggbhpnpomfjaaDoorBlLayPure
set_option linter.unusedVariables false
namespace Go.Proofs.YtnggbhpnpomfjaaDoor.Bl
open Go.RowKit
def strVs (L : List (List UInt8)) : List Value := L.map fun l => Value.string ⟨l.toArray⟩
theorem linesT_succ (rs : List Rw) (k : Nat) : linesT rs (k + 1) = linesT rs k ++ [lineT rs k] := by
  unfold linesT; rw [List.range_succ, List.map_append]; rfl
theorem linesT_len (rs : List Rw) (k : Nat) : (linesT rs k).length = k := by simp [linesT]
theorem strVs_len (L : List (List UInt8)) : (strVs L).length = L.length := by simp [strVs]
theorem linesT_take (rs : List Rw) {m n : Nat} (h : m ≤ n) : (linesT rs n).take m = linesT rs m := by
  unfold linesT; rw [← List.map_take, List.take_range, Nat.min_eq_left h]
theorem bl_row_ne {w : World} {base g : Nat} {e t : TypeId} {size n : Nat} {v : Value} {xs : List Value} {cs : Array Value} {fr : Nat × Nat} (h : w.ownsRow base e size v n xs) (hb : w.heap[g]? = some (.cells cs t fr)) (hne : e ≠ t) : some g ≠ v.ownBlock := by
  intro he
  rcases h.2 with ⟨rfl, _⟩ | ⟨b, cap, cur, rfl, _, hh, _⟩
  · cases he
  · have : g = b := by simpa [Value.ownBlock] using he
    subst this
    rw [hh] at hb
    injection hb with hb
    injection hb with _ h2 _
    exact hne h2
theorem bl_own_len {w : World} {base : Nat} {e : TypeId} {size n : Nat} {v : Value} {xs : List Value} (h : w.ownsRow base e size v n xs) : ∃ A c, v = .slice A n c ∧ n ≤ c := by
  rcases h.2 with ⟨rfl, h0⟩ | ⟨g, cap, cur, rfl, _, _, hc, _⟩
  · exact ⟨none, 0, by rw [h0], by omega⟩
  · exact ⟨_, _, rfl, hc⟩
theorem bl_own_below {w w' : World} {base : Nat} {e : TypeId} {size n : Nat} {v : Value} {xs : List Value} (h : w.ownsRow base e size v n xs) (hb : Below w.heap.size w w') : w'.ownsRow base e size v n xs := by
  refine ⟨h.1, ?_⟩
  rcases h.2 with h2 | ⟨b, cap, cur, hv, hge, hh, r⟩
  · exact Or.inl h2
  · exact Or.inr ⟨b, cap, cur, hv, hge, (hb.block b (bl_block_lt hh)).trans hh, r⟩
theorem strs_own {w : World} {base : Nat} {A : Option Addr} {c n : Nat} {L : List (List UInt8)} (h : w.ownsRow base 9 1 (.slice A n c) n (strVs L)) (hn : L.length = n) {m : Nat} (hm : m ≤ n) : StrsIn w A c ((L.take m).map fun l => (⟨l.toArray⟩ : ByteArray)) := by
  have hlen : ((L.take m).map fun l => (⟨l.toArray⟩ : ByteArray)).length = m := by simp; omega
  rcases h.2 with ⟨he, h0⟩ | ⟨g, cap, cur, he, _, hh, hn', _, hc, ht⟩
  · simp only [Value.slice.injEq] at he
    obtain ⟨rfl, _, rfl⟩ := he
    exact ⟨fun i hi => by rw [hlen] at hi; omega, by rw [hlen]; omega⟩
  · simp only [Value.slice.injEq] at he
    obtain ⟨rfl, _, rfl⟩ := he
    refine ⟨fun i hi => ⟨g, 0, rfl, bl_block_lt hh, ?_⟩, by rw [hlen]; omega⟩
    rw [hlen] at hi
    rw [Nat.zero_add, bl_block_cell hh]
    have e : cur.toList[i]? = (strVs L)[i]? := by rw [← ht, List.getElem?_take, if_pos (by omega)]
    rw [← Array.getElem?_toList, e]
    have hi2 : i < L.length := by omega
    simp [strVs, List.getD_eq_getElem?_getD, hi, hi2]
theorem wpList_append_str {w : World} {ops : Array Oper} {rest : List Oper} {o : Oper} {a : Act} {Q : Exit → Act → World → Prop} (hgd : o.guard = none) (s x : Operand) (ho : o.op = .call { callee := .builtin .append, args := #[s, x], argTypes := #[48, 48] })
    (base : Nat) (v : Value) (n : Nat) (L : List (List UInt8)) (hs : a.eval s = v) (hown : w.ownsRow base 9 1 v n (strVs L)) (str : ByteArray) (hx : a.eval x = .slice (some ⟨w.heap.size, 0, none⟩) 1 1) (hn : n ≤ 1000000) (hb : base ≤ w.heap.size)
    (h : ∀ v' w', w'.ownsRow base 9 1 v' (n + 1) (strVs L ++ [.string str]) → (w.alloc (.cells #[.string str] 9)).grownBy w' v.ownBlock → wpList Tryd.prog ops Q rest (a.put o.dst v') w') : wpList Tryd.prog ops Q (o :: rest) a (w.alloc (.cells #[.string str] 9)) := by
  obtain ⟨i0, hi, hz0, hz1, hz2⟩ := info_parts bl_infoStr
  refine wpList_append_own _ hgd s x 48 ho base 9 i0 (.string ⟨#[]⟩) 1 16 Tryd.underlying48 hi hz0 hz1 hz2 rfl (by decide) v n (strVs L) hs (bl_own_below hown ((Below.refl _ _).alloc (Nat.le_refl _) _)) ⟨w.heap.size, 0, none⟩ 1 1 [.string str] hx rfl ?_ ?_ (by unfold maxLen; omega) (by omega) (by simp; omega) (fun v' w' h1 h2 _ => h v' w' h1 h2)
  · intro j u hj
    rcases j with _ | j
    · simp at hj; subst hj
      simp [Addr.add]
    · simp at hj
  · intro u hu; simp at hu; subst hu; rfl
/-- one byte more -/
theorem splitT_snoc : ∀ (p : List UInt8) (c : UInt8), splitT (p ++ [c]) = if c = 10 then splitT p ++ [[]] else (splitT p).dropLast ++ [(splitT p).getLastD [] ++ [c]]
  | [], c => by
    by_cases h : c = 10
    · subst h; rfl
    · simp [splitT, h]
  | d :: p, c => by
    have ih := splitT_snoc p c
    have hne := splitT_ne p
    rw [List.cons_append, show splitT (d :: (p ++ [c])) = if d = 10 then [] :: splitT (p ++ [c]) else (d :: (splitT (p ++ [c])).headD []) :: (splitT (p ++ [c])).tail from rfl,
      show splitT (d :: p) = if d = 10 then [] :: splitT p else (d :: (splitT p).headD []) :: (splitT p).tail from rfl, ih]
    cases hs : splitT p with
    | nil => exact absurd hs hne
    | cons y r =>
      by_cases hd : d = 10
      · by_cases hc : c = 10
        · simp [hd, hc]
        · simp [hd, hc]
      · by_cases hc : c = 10
        · simp [hd, hc]
        · cases r with
          | nil => simp [hd, hc]
          | cons z r => simp [hd, hc]
end Go.Proofs.YtnggbhpnpomfjaaDoor.Bl
