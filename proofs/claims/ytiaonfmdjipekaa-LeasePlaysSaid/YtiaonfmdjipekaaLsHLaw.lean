/- Plain laws: what up, down, Fix and Remove keep: a heap stays a heap, its top is least. Conditions: none; no program. -/
import Derived.Test.YtiaonfmdjipekaaLsPure
set_option linter.unusedVariables false
namespace Go.Proofs.Ytiaonfmdjipekaa.Ls
theorem lessE_asym {a b : Ent} (h : lessE a b = true) : lessE b a = false := by
  unfold lessE at *
  simp at *
  omega
theorem lessE_trans {a b c : Ent} (h : lessE a b = true) (k : lessE b c = true) : lessE a c = true := by
  unfold lessE at *
  simp at *
  omega
theorem lessE_ntrans {a b c : Ent} (h : lessE a b = false) (k : lessE b c = false) : lessE a c = false := by
  unfold lessE at *
  simp at *
  omega
/-- k does not stand ahead of the one above it -/
def okAt (h : List Ent) (k : Nat) : Prop := lessE (h.getD k ent0) (h.getD ((k - 1) / 2) ent0) = false
def IsHeap (h : List Ent) (n : Nat) : Prop := ∀ k, 0 < k → k < n → okAt h k
def UpPre (h : List Ent) (j n : Nat) : Prop := (∀ k, 0 < k → k < n → k ≠ j → okAt h k) ∧ (0 < j → ∀ k, k < n → 0 < k → (k - 1) / 2 = j → lessE (h.getD k ent0) (h.getD ((j - 1) / 2) ent0) = false)
theorem upL_heap : ∀ (f : Nat) (h : List Ent) (j n : Nat), j < f → j < n → n ≤ h.length → UpPre h j n → IsHeap (upL f h j) n
  | 0, h, j, n, hf, _, _, _ => by omega
  | f + 1, h, j, n, hf, hj, hn, ⟨p1, p2⟩ => by
    unfold upL
    split
    · rename_i h1
      intro k k0 kn
      exact p1 k k0 kn (by omega)
    · rename_i h1
      split
      · rename_i h2
        have hjl : j < h.length := by omega
        have hil : (j - 1) / 2 < h.length := by omega
        have hj0 : 0 < j := by omega
        refine upL_heap f _ _ n (by omega) (by omega) (by rw [swapL_len]; exact hn) ⟨fun k k0 kn kne => ?_, fun i0 k kn k0 kp => ?_⟩
        · unfold okAt
          rw [swapL_get h hil hjl, swapL_get h hil hjl]
          by_cases e1 : k = j
          · subst e1
            rw [if_pos rfl, if_neg (by omega), if_pos rfl]
            exact lessE_asym h2
          · rw [if_neg e1, if_neg kne]
            by_cases e2 : (k - 1) / 2 = j
            · rw [if_pos e2]
              exact p2 hj0 k kn k0 e2
            · rw [if_neg e2]
              have o := p1 k k0 kn e1
              unfold okAt at o
              by_cases e3 : (k - 1) / 2 = (j - 1) / 2
              · rw [if_pos e3]
                rw [e3] at o
                cases hx : lessE (h.getD k ent0) (h.getD j ent0) with
                | false => rfl
                | true => rw [lessE_trans hx h2] at o; exact o
              · rw [if_neg e3]
                exact o
        · rw [swapL_get h hil hjl, swapL_get h hil hjl, if_neg (show ¬ ((j - 1) / 2 - 1) / 2 = j by omega), if_neg (show ¬ ((j - 1) / 2 - 1) / 2 = (j - 1) / 2 by omega)]
          have o := p1 ((j - 1) / 2) i0 (by omega) (by omega)
          unfold okAt at o
          by_cases e1 : k = j
          · rw [if_pos e1]
            exact o
          · rw [if_neg e1, if_neg (by omega)]
            have o2 := p1 k k0 kn e1
            unfold okAt at o2
            rw [kp] at o2
            exact lessE_ntrans o2 o
      · rename_i h2
        intro k k0 kn
        by_cases e1 : k = j
        · subst e1
          unfold okAt
          simpa using h2
        · exact p1 k k0 kn e1
def DownPre (h : List Ent) (i n : Nat) : Prop := (∀ k, 0 < k → k < n → k ≠ i → (k - 1) / 2 ≠ i → okAt h k) ∧ (0 < i → ∀ k, k < n → 0 < k → (k - 1) / 2 = i → lessE (h.getD k ent0) (h.getD ((i - 1) / 2) ent0) = false)
theorem childL_min {h : List Ent} {i n : Nat} (h1 : 2 * i + 1 < n) {k : Nat} (k0 : 0 < k) (kn : k < n) (kp : (k - 1) / 2 = i) : lessE (h.getD k ent0) (h.getD (childL h i n) ent0) = false := by
  have irr : ∀ a : Ent, lessE a a = false := fun a => by unfold lessE; simp
  have hk : k = 2 * i + 1 ∨ k = 2 * i + 2 := by omega
  unfold childL
  split
  · rename_i hc
    rcases hk with rfl | rfl
    · exact lessE_asym hc.2
    · exact irr _
  · rename_i hc
    rcases hk with rfl | rfl
    · exact irr _
    · cases hx : lessE (h.getD (2 * i + 2) ent0) (h.getD (2 * i + 1) ent0) with
      | false => rfl
      | true => exact absurd ⟨kn, hx⟩ hc
theorem down_step {h : List Ent} {i n : Nat} (hn : n ≤ h.length) (p : DownPre h i n) (h1 : 2 * i + 1 < n) (h2 : lessE (h.getD (childL h i n) ent0) (h.getD i ent0) = true) :
    DownPre (swapL h i (childL h i n)) (childL h i n) n ∧ okAt (swapL h i (childL h i n)) (childL h i n) := by
  obtain ⟨p1, p2⟩ := p
  have hc := childL_lt (l := h) h1
  have hcp : (childL h i n - 1) / 2 = i := by
    unfold childL
    split <;> omega
  have hmin := fun k k0 kn kp => childL_min (h := h) h1 (k := k) k0 kn kp
  generalize childL h i n = c at *
  have hil : i < h.length := by omega
  have hcl : c < h.length := by omega
  refine ⟨⟨fun k k0 kn kne kp => ?_, fun c0 k kn k0 kp => ?_⟩, ?_⟩
  · unfold okAt
    rw [swapL_get h hil hcl, swapL_get h hil hcl, if_neg kne, if_neg kp]
    by_cases e1 : k = i
    · subst e1
      rw [if_pos rfl, if_neg (by omega)]
      exact p2 k0 c hc.2 (by omega) hcp
    · rw [if_neg e1]
      by_cases e2 : (k - 1) / 2 = i
      · rw [if_pos e2]
        exact hmin k k0 kn e2
      · rw [if_neg e2]
        exact p1 k k0 kn e1 e2
  · rw [swapL_get h hil hcl, swapL_get h hil hcl, if_neg (show ¬ k = c by omega), if_neg (show ¬ k = i by omega), hcp, if_neg (by omega), if_pos rfl]
    have o := p1 k k0 kn (by omega) (by omega)
    unfold okAt at o
    rw [kp] at o
    exact o
  · unfold okAt
    rw [swapL_get h hil hcl, swapL_get h hil hcl, hcp, if_pos rfl, if_neg (by omega), if_pos rfl]
    exact lessE_asym h2
theorem down_stop {h : List Ent} {i n : Nat} (p : DownPre h i n) (hs : n ≤ 2 * i + 1 ∨ (2 * i + 1 < n ∧ lessE (h.getD (childL h i n) ent0) (h.getD i ent0) = false)) : ∀ k, 0 < k → k < n → k ≠ i → okAt h k := by
  intro k k0 kn kne
  by_cases e : (k - 1) / 2 = i
  · rcases hs with hs | ⟨h1, h2⟩
    · omega
    · unfold okAt
      rw [e]
      exact lessE_ntrans (childL_min h1 k0 kn e) h2
  · exact p.1 k k0 kn kne e
theorem downL_ge : ∀ (f : Nat) (h : List Ent) (i n : Nat), i ≤ (downL f h i n).2
  | 0, h, i, n => Nat.le_refl _
  | f + 1, h, i, n => by
    unfold downL
    split
    · rename_i h1
      split
      · have := downL_ge f (swapL h i (childL h i n)) (childL h i n) n
        have := childL_lt (l := h) h1
        omega
      · exact Nat.le_refl _
    · exact Nat.le_refl _
/-- from where it is already in order with what is above it -/
theorem downL_heap : ∀ (f : Nat) (h : List Ent) (i n : Nat), n - i < f → n ≤ h.length → DownPre h i n → (0 < i → i < n → okAt h i) → IsHeap (downL f h i n).1 n
  | 0, h, i, n, hf, _, _, _ => by omega
  | f + 1, h, i, n, hf, hn, p, ho => by
    unfold downL
    split
    · rename_i h1
      split
      · rename_i h2
        have st := down_step hn p h1 h2
        have hc := childL_lt (l := h) h1
        exact downL_heap f _ _ n (by omega) (by rw [swapL_len]; exact hn) st.1 fun _ _ => st.2
      · rename_i h2
        intro k k0 kn
        by_cases e : k = i
        · subst e; exact ho k0 kn
        · exact down_stop p (Or.inr ⟨h1, by simpa using h2⟩) k k0 kn e
    · rename_i h1
      intro k k0 kn
      by_cases e : k = i
      · subst e; exact ho k0 kn
      · exact down_stop p (Or.inl (by omega)) k k0 kn e
theorem fix_heap {h : List Ent} {i n m : Nat} (hm : m = n) (hi : i < n) (hn : n ≤ h.length) (p : DownPre h i n) : IsHeap (if i < (downL (m + 1) h i n).2 then (downL (m + 1) h i n).1 else upL (i + 1) (downL (m + 1) h i n).1 i) n := by
  subst hm
  by_cases h1 : 2 * i + 1 < m
  · by_cases h2 : lessE (h.getD (childL h i m) ent0) (h.getD i ent0) = true
    · have st := down_step hn p h1 h2
      have hc := childL_lt (l := h) h1
      have e : downL (m + 1) h i m = downL m (swapL h i (childL h i m)) (childL h i m) m := by
        conv => lhs; unfold downL
        rw [if_pos h1, if_pos h2]
      have hg := downL_ge m (swapL h i (childL h i m)) (childL h i m) m
      rw [e, if_pos (by omega)]
      exact downL_heap m _ _ m (by omega) (by rw [swapL_len]; exact hn) st.1 fun _ _ => st.2
    · have e : downL (m + 1) h i m = (h, i) := by
        conv => lhs; unfold downL
        rw [if_pos h1, if_neg h2]
      rw [e]
      simp only [Nat.lt_irrefl, if_false]
      exact upL_heap (i + 1) h i m (by omega) hi hn ⟨down_stop p (Or.inr ⟨h1, by simpa using h2⟩), p.2⟩
  · have e : downL (m + 1) h i m = (h, i) := by
      conv => lhs; unfold downL
      rw [if_neg h1]
    rw [e]
    simp only [Nat.lt_irrefl, if_false]
    exact upL_heap (i + 1) h i m (by omega) hi hn ⟨down_stop p (Or.inl (by omega)), p.2⟩
theorem heap_top {h : List Ent} {n : Nat} (p : IsHeap h n) : ∀ (m k : Nat), k ≤ m → k < n → lessE (h.getD k ent0) (h.getD 0 ent0) = false
  | 0, k, hk, hn => by
    obtain rfl : k = 0 := by omega
    unfold lessE; simp
  | m + 1, k, hk, hn => by
    by_cases k0 : k = 0
    · subst k0; unfold lessE; simp
    · exact lessE_ntrans (p k (by omega) hn) (heap_top p m ((k - 1) / 2) (by omega) (by omega))
theorem getD_set (h : List Ent) (i : Nat) (e : Ent) (hi : i < h.length) (k : Nat) : (h.set i e).getD k ent0 = if k = i then e else h.getD k ent0 := by
  by_cases hk : k = i
  · subst hk
    simp [List.getD_eq_getElem?_getD, hi]
  · have : ¬ i = k := fun x => hk x.symm
    simp [List.getD_eq_getElem?_getD, List.getElem?_set, hk, this]
/-- one entry is turned: what down wants -/
theorem set_downPre {h : List Ent} {n i : Nat} (hn : n ≤ h.length) (hi : i < n) (p : IsHeap h n) (e : Ent) : DownPre (h.set i e) i n := by
  have g := getD_set h i e (by omega)
  refine ⟨fun k k0 kn kne kp => ?_, fun i0 k kn k0 kp => ?_⟩
  · unfold okAt
    rw [g, g, if_neg kne, if_neg kp]
    exact p k k0 kn
  · rw [g, g, if_neg (by omega), if_neg (by omega)]
    have o1 := p k k0 kn
    have o2 := p i i0 hi
    unfold okAt at o1 o2
    rw [kp] at o1
    exact lessE_ntrans o1 o2
theorem swap_downPre {h : List Ent} {n i : Nat} (hn : h.length = n + 1) (hi : i < n) (p : IsHeap h (n + 1)) : DownPre (swapL h i n) i n := by
  have g := swapL_get h (i := i) (j := n) (by omega) (by omega)
  refine ⟨fun k k0 kn kne kp => ?_, fun i0 k kn k0 kp => ?_⟩
  · unfold okAt
    rw [g, g, if_neg (by omega), if_neg kne, if_neg (by omega), if_neg kp]
    exact p k k0 (by omega)
  · rw [g, g, if_neg (by omega), if_neg (by omega), if_neg (by omega), if_neg (by omega)]
    have o1 := p k k0 (by omega)
    have o2 := p i i0 (by omega)
    unfold okAt at o1 o2
    rw [kp] at o1
    exact lessE_ntrans o1 o2
theorem take_getD (h : List Ent) (n k : Nat) (hk : k < n) : (h.take n).getD k ent0 = h.getD k ent0 := by
  simp [List.getD_eq_getElem?_getD, hk]
theorem take_heap {h : List Ent} {n : Nat} (p : IsHeap h n) : IsHeap (h.take n) n := by
  intro k k0 kn
  unfold okAt
  rw [take_getD h n k kn, take_getD h n _ (by omega)]
  exact p k k0 kn
theorem push_upPre {h : List Ent} {n : Nat} (hn : h.length = n) (p : IsHeap h n) (e : Ent) : UpPre (h ++ [e]) n (n + 1) := by
  have g : ∀ k, k < n → (h ++ [e]).getD k ent0 = h.getD k ent0 := fun k hk => by
    simp [List.getD_eq_getElem?_getD, List.getElem?_append_left (show k < h.length by omega)]
  refine ⟨fun k k0 kn kne => ?_, fun _ k kn k0 kp => by omega⟩
  unfold okAt
  rw [g k (by omega), g _ (by omega)]
  exact p k k0 (by omega)
end Go.Proofs.Ytiaonfmdjipekaa.Ls
