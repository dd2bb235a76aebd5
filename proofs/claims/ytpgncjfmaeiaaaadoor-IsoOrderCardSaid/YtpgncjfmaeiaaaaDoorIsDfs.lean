/- The search over pairs, plain: what 'to' answers and notes. No program. -/
import Derived.Test.YtpgncjfmaeiaaaaDoorIsOne
set_option linter.unusedVariables false
namespace Go.Proofs.YtpgncjfmaeiaaaaDoor.Is
/-- one child behind the other, as long as each is so -/
def goF (step : PrL → Int × Int → Bool × PrL) : PrL → PrL → Bool × PrL
  | [], met => (true, met)
  | c :: l, met => if (step met c).1 = true then goF step l (step met c).2 else (false, (step met c).2)
theorem goF_append (step : PrL → Int × Int → Bool × PrL) : ∀ (l m met : PrL), goF step (l ++ m) met = if (goF step l met).1 = true then goF step m (goF step l met).2 else goF step l met
  | [], m, met => by simp [goF]
  | c :: l, m, met => by
    have e : ∀ k, goF step (c :: k) met = if (step met c).1 = true then goF step k (step met c).2 else (false, (step met c).2) := fun _ => rfl
    rw [List.cons_append, e, e]
    by_cases h : (step met c).1 = true
    · rw [if_pos h, if_pos h]
      exact goF_append step l m _
    · rw [if_neg h, if_neg h]
      simp
theorem goF_snoc {step : PrL → Int × Int → Bool × PrL} {l met m1 : PrL} {c : Int × Int} (h : goF step l met = (true, m1)) : goF step (l ++ [c]) met = step m1 c := by
  rw [goF_append, h]
  simp only [if_true, goF]
  by_cases h2 : (step m1 c).1 = true
  · rw [if_pos h2, ← h2]
  · rw [if_neg h2]
    have : (step m1 c).1 = false := by simpa using h2
    rw [← this]
/-- a beginning that fails -/
theorem goF_fail {step : PrL → Int × Int → Bool × PrL} {l m met m1 : PrL} (h : goF step l met = (false, m1)) (hp : l <+: m) : goF step m met = (false, m1) := by
  obtain ⟨t, rfl⟩ := hp
  rw [goF_append, h]
  simp
def toF (ch : Int × Int → Bool × PrL) : Nat → PrL → Int × Int → Bool × PrL
  | 0, met, _ => (false, met)
  | N + 1, met, x => if x ∈ met then (true, met) else ((goF (toF ch N) (ch x).2 (x :: met)).1 && (ch x).1, (goF (toF ch N) (ch x).2 (x :: met)).2)
theorem goF_sub {step : PrL → Int × Int → Bool × PrL} (hs : ∀ met c, ∀ y ∈ met, y ∈ (step met c).2) : ∀ (l met : PrL), ∀ y ∈ met, y ∈ (goF step l met).2
  | [], met, y, hy => hy
  | c :: l, met, y, hy => by
    unfold goF
    by_cases h : (step met c).1 = true
    · rw [if_pos h]
      exact goF_sub hs l _ y (hs met c y hy)
    · rw [if_neg h]
      exact hs met c y hy
theorem toF_sub (ch : Int × Int → Bool × PrL) : ∀ (N : Nat) (met : PrL) (x : Int × Int), ∀ y ∈ met, y ∈ (toF ch N met x).2
  | 0, met, x, y, hy => hy
  | N + 1, met, x, y, hy => by
    unfold toF
    by_cases h : x ∈ met
    · rw [if_pos h]; exact hy
    · rw [if_neg h]
      exact goF_sub (fun m c => toF_sub ch N m c) _ _ y (List.mem_cons_of_mem _ hy)
/-- all pairs of places -/
def univ (na nb : Nat) : PrL := (List.range na).flatMap fun (i : Nat) => (List.range nb).map fun (j : Nat) => (((i : Nat) : Int), (j : Int))
def InU (na nb : Nat) (x : Int × Int) : Prop := 0 ≤ x.1 ∧ x.1 < na ∧ 0 ≤ x.2 ∧ x.2 < nb
theorem mem_univ {na nb : Nat} {x : Int × Int} (h : InU na nb x) : x ∈ univ na nb := by
  obtain ⟨h1, h2, h3, h4⟩ := h
  unfold univ
  rw [List.mem_flatMap]
  refine ⟨x.1.toNat, List.mem_range.2 (by omega), List.mem_map.2 ⟨x.2.toNat, List.mem_range.2 (by omega), ?_⟩⟩
  obtain ⟨a, b⟩ := x
  simp only at h1 h2 h3 h4 ⊢
  rw [Int.toNat_of_nonneg h1, Int.toNat_of_nonneg h3]
theorem univ_len (na nb : Nat) : (univ na nb).length = na * nb := by
  unfold univ
  rw [List.length_flatMap]
  simp only [List.length_map, List.length_range]
  induction na with
  | zero => simp
  | succ n ih => rw [List.range_succ, List.map_append, List.sum_append, ih, Nat.succ_mul]; simp
instance dmemP (x : Int × Int) (l : PrL) : Decidable (x ∈ l) := inferInstance
/-- how many pairs are not met -/
def mu (na nb : Nat) (met : PrL) : Nat := ((univ na nb).filter fun x => !decide (x ∈ met)).length
theorem filter_len_le {α : Type} {p q : α → Bool} (h : ∀ x, p x = true → q x = true) : ∀ l : List α, (l.filter p).length ≤ (l.filter q).length
  | [] => Nat.le_refl _
  | x :: l => by
    have ih := filter_len_le h l
    by_cases hp : p x = true
    · rw [List.filter_cons_of_pos hp, List.filter_cons_of_pos (h x hp)]
      simp only [List.length_cons]
      omega
    · rw [List.filter_cons_of_neg hp]
      by_cases hq : q x = true
      · rw [List.filter_cons_of_pos hq]
        simp only [List.length_cons]
        omega
      · rw [List.filter_cons_of_neg hq]
        exact ih
theorem filter_len_lt {α : Type} {p q : α → Bool} (h : ∀ x, p x = true → q x = true) {y : α} (hp : p y = false) (hq : q y = true) : ∀ l : List α, y ∈ l → (l.filter p).length < (l.filter q).length
  | [], hy => by cases hy
  | x :: l, hy => by
    have hle := filter_len_le h l
    by_cases hx : x = y
    · subst hx
      rw [List.filter_cons_of_neg (by rw [hp]; simp), List.filter_cons_of_pos hq]
      simp only [List.length_cons]
      omega
    · have hy' : y ∈ l := by
        rcases List.mem_cons.1 hy with e | e
        · exact absurd e.symm hx
        · exact e
      have ih := filter_len_lt h hp hq l hy'
      by_cases hpx : p x = true
      · rw [List.filter_cons_of_pos hpx, List.filter_cons_of_pos (h x hpx)]
        simp only [List.length_cons]
        omega
      · rw [List.filter_cons_of_neg hpx]
        by_cases hqx : q x = true
        · rw [List.filter_cons_of_pos hqx]
          simp only [List.length_cons]
          omega
        · rw [List.filter_cons_of_neg hqx]
          exact ih
theorem mu_le {na nb : Nat} {met met' : PrL} (h : ∀ x ∈ met, x ∈ met') : mu na nb met' ≤ mu na nb met := by
  unfold mu
  apply filter_len_le
  intro x hx
  simp only [Bool.not_eq_true', decide_eq_false_iff_not] at hx ⊢
  exact fun hm => hx (h x hm)
theorem mu_lt {na nb : Nat} {met : PrL} {x : Int × Int} (hx : InU na nb x) (hn : x ∉ met) : mu na nb (x :: met) < mu na nb met := by
  unfold mu
  apply filter_len_lt (y := x) _ _ _ _ (mem_univ hx)
  · intro y hy
    simp only [Bool.not_eq_true', decide_eq_false_iff_not, List.mem_cons, not_or] at hy ⊢
    exact hy.2
  · simp
  · simp [hn]
theorem mu_nil (na nb : Nat) : mu na nb [] = na * nb := by
  unfold mu
  have : (univ na nb).filter (fun x => !decide (x ∈ ([] : PrL))) = univ na nb := by
    apply List.filter_eq_self.2
    intro x _
    simp
  rw [this, univ_len]
/-- what is met: pairs of places, no more than there are -/
structure OkM (na nb : Nat) (met : PrL) : Prop where
  mem : ∀ x ∈ met, InU na nb x
  len : met.length + mu na nb met ≤ na * nb
theorem OkM.nil (na nb : Nat) : OkM na nb [] := ⟨fun x hx => absurd hx List.not_mem_nil, by rw [mu_nil]; simp⟩
theorem OkM.cons {na nb : Nat} {met : PrL} (h : OkM na nb met) {x : Int × Int} (hx : InU na nb x) (hn : x ∉ met) : OkM na nb (x :: met) :=
  ⟨fun y hy => by
    rcases List.mem_cons.1 hy with e | e
    · rw [e]; exact hx
    · exact h.mem y e, by
    have h1 := mu_lt hx hn
    have h2 := h.len
    simp only [List.length_cons]
    omega⟩
theorem goF_ok {na nb : Nat} {step : PrL → Int × Int → Bool × PrL} (hs : ∀ met c, OkM na nb met → InU na nb c → OkM na nb (step met c).2) : ∀ (l met : PrL), OkM na nb met → (∀ c ∈ l, InU na nb c) → OkM na nb (goF step l met).2
  | [], met, h, _ => h
  | c :: l, met, h, hl => by
    unfold goF
    have h1 := hs met c h (hl c (by simp))
    by_cases hc : (step met c).1 = true
    · rw [if_pos hc]
      exact goF_ok hs l _ h1 (fun d hd => hl d (by simp [hd]))
    · rw [if_neg hc]
      exact h1
theorem toF_ok {na nb : Nat} {ch : Int × Int → Bool × PrL} (hc : ∀ x, InU na nb x → ∀ c ∈ (ch x).2, InU na nb c) : ∀ (N : Nat) (met : PrL) (x : Int × Int), OkM na nb met → InU na nb x → OkM na nb (toF ch N met x).2
  | 0, met, x, h, _ => h
  | N + 1, met, x, h, hx => by
    unfold toF
    by_cases hm : x ∈ met
    · rw [if_pos hm]; exact h
    · rw [if_neg hm]
      exact goF_ok (fun m c h1 h2 => toF_ok hc N m c h1 h2) _ _ (h.cons hx hm) (hc x hx)
/-! ### the children -/
def ndOf (g : Gv) (k : Int) : Nd := g.ns.getD k.toNat nd0
/-- the pairs of entries, up to a key that is not there -/
def mapsTo (A B : List Nd) (xk yk : List Int) : Nat → Bool × PrL
  | 0 => (true, [])
  | i + 1 => if (mapsTo A B xk yk i).1 = true then
      match entTo B yk (yk.length / 2) (keyAt A (xk.getD (2 * i) 0)) with
      | some e => (true, (mapsTo A B xk yk i).2 ++ [(xk.getD (2 * i) 0, e.1), (xk.getD (2 * i + 1) 0, e.2)])
      | none => (false, (mapsTo A B xk yk i).2)
    else mapsTo A B xk yk i
theorem mapsTo_some {A B : List Nd} {xk yk : List Int} {i : Nat} {e : Int × Int} (h : (mapsTo A B xk yk i).1 = true) (he : entTo B yk (yk.length / 2) (keyAt A (xk.getD (2 * i) 0)) = some e) : mapsTo A B xk yk (i + 1) = (true, (mapsTo A B xk yk i).2 ++ [(xk.getD (2 * i) 0, e.1), (xk.getD (2 * i + 1) 0, e.2)]) := by
  rw [mapsTo, if_pos h, he]
theorem mapsTo_none {A B : List Nd} {xk yk : List Int} {i : Nat} (h : (mapsTo A B xk yk i).1 = true) (he : entTo B yk (yk.length / 2) (keyAt A (xk.getD (2 * i) 0)) = none) : mapsTo A B xk yk (i + 1) = (false, (mapsTo A B xk yk i).2) := by
  rw [mapsTo, if_pos h, he]
theorem mapsTo_false {A B : List Nd} {xk yk : List Int} {i : Nat} (h : (mapsTo A B xk yk i).1 = false) : ∀ n, i ≤ n → mapsTo A B xk yk n = mapsTo A B xk yk i := by
  intro n
  induction n with
  | zero => intro hn; have : i = 0 := Nat.le_zero.1 hn; subst this; rfl
  | succ n ih =>
    intro hn
    rcases Nat.lt_or_ge n i with h' | h'
    · obtain rfl : i = n + 1 := by omega
      rfl
    · have h1 := ih h'
      rw [mapsTo, if_neg (by rw [h1, h]; simp), h1]
theorem mapsTo_pre {A B : List Nd} {xk yk : List Int} (i : Nat) : ∀ n, i ≤ n → (mapsTo A B xk yk i).2 <+: (mapsTo A B xk yk n).2 := by
  intro n
  induction n with
  | zero => intro hn; have : i = 0 := Nat.le_zero.1 hn; subst this; exact List.prefix_refl _
  | succ n ih =>
    intro hn
    rcases Nat.lt_or_ge n i with h' | h'
    · obtain rfl : i = n + 1 := by omega
      exact List.prefix_refl _
    · refine (ih h').trans ?_
      by_cases h1 : (mapsTo A B xk yk n).1 = true
      · cases he : entTo B yk (yk.length / 2) (keyAt A (xk.getD (2 * n) 0)) with
        | none => rw [mapsTo_none h1 he]; exact List.prefix_refl _
        | some e => rw [mapsTo_some h1 he]; exact List.prefix_append _ _
      · rw [mapsTo_false (by simpa using h1) (n + 1) (Nat.le_succ _)]
        exact List.prefix_refl _
def chN (a b : Gv) (ord : Bool) (x : Int × Int) : Bool × PrL :=
  if (ndOf a x.1).kind = (ndOf b x.2).kind ∧ (ndOf a x.1).txt = (ndOf b x.2).txt ∧ (ndOf a x.1).kids.length = (ndOf b x.2).kids.length then
    if (ndOf a x.1).kind = 6 ∧ ord = false then mapsTo a.ns b.ns (ndOf a x.1).kids (ndOf b x.2).kids ((ndOf a x.1).kids.length / 2)
    else (true, (ndOf a x.1).kids.zip (ndOf b x.2).kids)
  else (false, [])
theorem entTo_mem {ns : List Nd} {kids : List Int} {x : Int × ByteArray} {e : Int × Int} : ∀ j, 2 * j ≤ kids.length → entTo ns kids j x = some e → e.1 ∈ kids ∧ e.2 ∈ kids ∧ keyAt ns e.1 = x
  | 0, _, h => by cases h
  | j + 1, hj, h => by
    unfold entTo at h
    split at h
    · rename_i hk
      injection h with h
      subst h
      refine ⟨?_, ?_, hk⟩
      · show kids.getD (2 * j) 0 ∈ kids
        rw [List.getD_eq_getElem?_getD, List.getElem?_eq_getElem (by omega)]
        exact List.getElem_mem _
      · show kids.getD (2 * j + 1) 0 ∈ kids
        rw [List.getD_eq_getElem?_getD, List.getElem?_eq_getElem (by omega)]
        exact List.getElem_mem _
    · exact entTo_mem j (by omega) h
theorem getD_mem {l : List Int} {i : Nat} (h : i < l.length) : l.getD i 0 ∈ l := by
  rw [List.getD_eq_getElem?_getD, List.getElem?_eq_getElem h]
  exact List.getElem_mem h
theorem mapsTo_mem {A B : List Nd} {xk yk : List Int} : ∀ n, 2 * n ≤ xk.length → ∀ c ∈ (mapsTo A B xk yk n).2, c.1 ∈ xk ∧ c.2 ∈ yk
  | 0, _, c, hc => by cases hc
  | n + 1, hn, c, hc => by
    have ih := mapsTo_mem (A := A) (B := B) (xk := xk) (yk := yk) n (by omega)
    by_cases h1 : (mapsTo A B xk yk n).1 = true
    · cases he : entTo B yk (yk.length / 2) (keyAt A (xk.getD (2 * n) 0)) with
      | none => rw [mapsTo_none h1 he] at hc; exact ih c hc
      | some e =>
        rw [mapsTo_some h1 he] at hc
        simp only [List.mem_append, List.mem_cons, List.not_mem_nil, or_false] at hc
        have hm := entTo_mem (yk.length / 2) (by omega) he
        rcases hc with h | h | h
        · exact ih c h
        · rw [h]; exact ⟨getD_mem (by omega), hm.1⟩
        · rw [h]; exact ⟨getD_mem (by omega), hm.2.1⟩
    · rw [mapsTo_false (by simpa using h1) (n + 1) (Nat.le_succ _)] at hc
      exact ih c hc
theorem chN_in {a b : Gv} {ord : Bool} (ra : rightN a = true) (rb : rightN b = true) : ∀ x, InU a.ns.length b.ns.length x → ∀ c ∈ (chN a b ord x).2, InU a.ns.length b.ns.length c := by
  intro x hx c hc
  obtain ⟨h1, h2, h3, h4⟩ := hx
  have ma : ndOf a x.1 ∈ a.ns := getD_memD (by omega)
  have mb : ndOf b x.2 ∈ b.ns := getD_memD (by omega)
  have key : c.1 ∈ (ndOf a x.1).kids ∧ c.2 ∈ (ndOf b x.2).kids := by
    unfold chN at hc
    split at hc
    · split at hc
      · exact mapsTo_mem _ (by omega) c hc
      · exact ⟨(List.of_mem_zip hc).1, (List.of_mem_zip hc).2⟩
    · cases hc
  have k1 := right_kids ra ma c.1 key.1
  have k2 := right_kids rb mb c.2 key.2
  exact ⟨k1.1, k1.2, k2.1, k2.2⟩
end Go.Proofs.YtpgncjfmaeiaaaaDoor.Is
