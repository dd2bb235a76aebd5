/- Reachable pairs: what the search answers, plainly. No program. -/
import Derived.Test.YtpgncjfmaeiaaaaDoorIsDfs
set_option linter.unusedVariables false
namespace Go.Proofs.YtpgncjfmaeiaaaaDoor.Is
abbrev Ch := Int × Int → Bool × PrL
/-- what is reached from a pair -/
def Reach (ch : Ch) (r y : Int × Int) : Prop := ∀ S : Int × Int → Prop, S r → (∀ x c, S x → c ∈ (ch x).2 → S c) → S y
theorem Reach.root (ch : Ch) (r : Int × Int) : Reach ch r r := fun S h0 _ => h0
theorem Reach.kid {ch : Ch} {r x c : Int × Int} (h : Reach ch r x) (hc : c ∈ (ch x).2) : Reach ch r c := fun S h0 h1 => h1 x c (h S h0 h1) hc
theorem Reach.head {ch : Ch} {r c y : Int × Int} (hc : c ∈ (ch r).2) (h : Reach ch c y) : Reach ch r y := fun S h0 h1 => h S (h1 r c h0 hc) h1
def AllGood (ch : Ch) (r : Int × Int) : Prop := ∀ y, Reach ch r y → (ch y).1 = true
def Good1 (ch : Ch) (m : PrL) (y : Int × Int) : Prop := (ch y).1 = true ∧ ∀ c ∈ (ch y).2, c ∈ m
theorem Good1.mono {ch : Ch} {m m' : PrL} {y : Int × Int} (h : Good1 ch m y) (hs : ∀ z ∈ m, z ∈ m') : Good1 ch m' y := ⟨h.1, fun c hc => hs c (h.2 c hc)⟩
theorem goF_sound {ch : Ch} {step : PrL → Int × Int → Bool × PrL} (hs : ∀ met x r, step met x = (true, r) → x ∈ r ∧ (∀ y ∈ met, y ∈ r) ∧ ∀ y ∈ r, y ∈ met ∨ Good1 ch r y) :
    ∀ (l met r : PrL), goF step l met = (true, r) → (∀ c ∈ l, c ∈ r) ∧ (∀ y ∈ met, y ∈ r) ∧ ∀ y ∈ r, y ∈ met ∨ Good1 ch r y
  | [], met, r, h => by
    unfold goF at h
    injection h with _ h
    subst h
    exact ⟨fun c hc => absurd hc List.not_mem_nil, fun y hy => hy, fun y hy => Or.inl hy⟩
  | c :: l, met, r, h => by
    unfold goF at h
    by_cases h1 : (step met c).1 = true
    · rw [if_pos h1] at h
      obtain ⟨a1, a2, a3⟩ := hs met c (step met c).2 (by rw [← h1])
      obtain ⟨b1, b2, b3⟩ := goF_sound hs l _ r h
      refine ⟨fun d hd => ?_, fun y hy => b2 y (a2 y hy), fun y hy => ?_⟩
      · rcases List.mem_cons.1 hd with e | e
        · rw [e]; exact b2 c a1
        · exact b1 d e
      · rcases b3 y hy with e | e
        · rcases a3 y e with e2 | e2
          · exact Or.inl e2
          · exact Or.inr (e2.mono b2)
        · exact Or.inr e
    · rw [if_neg h1] at h
      injection h with h _
      cases h
theorem toF_sound (ch : Ch) : ∀ (N : Nat) (met : PrL) (x : Int × Int) (r : PrL), toF ch N met x = (true, r) → x ∈ r ∧ (∀ y ∈ met, y ∈ r) ∧ ∀ y ∈ r, y ∈ met ∨ Good1 ch r y
  | 0, met, x, r, h => by
    unfold toF at h
    injection h with h _
    cases h
  | N + 1, met, x, r, h => by
    unfold toF at h
    by_cases hm : x ∈ met
    · rw [if_pos hm] at h
      injection h with _ h
      subst h
      exact ⟨hm, fun y hy => hy, fun y hy => Or.inl hy⟩
    · rw [if_neg hm] at h
      injection h with h1 h2
      simp only [Bool.and_eq_true] at h1
      obtain ⟨b1, b2, b3⟩ := goF_sound (ch := ch) (fun met x r => toF_sound ch N met x r) (ch x).2 (x :: met) r (by rw [← h2, ← h1.1])
      refine ⟨b2 x (by simp), fun y hy => b2 y (by simp [hy]), fun y hy => ?_⟩
      rcases b3 y hy with e | e
      · rcases List.mem_cons.1 e with e | e
        · exact Or.inr (by rw [e]; exact ⟨h1.2, b1⟩)
        · exact Or.inl e
      · exact Or.inr e
theorem goF_reach {ch : Ch} {step : PrL → Int × Int → Bool × PrL} (hs : ∀ met x, ∀ y ∈ (step met x).2, y ∈ met ∨ Reach ch x y) :
    ∀ (l met : PrL), ∀ y ∈ (goF step l met).2, y ∈ met ∨ ∃ c ∈ l, Reach ch c y
  | [], met, y, hy => Or.inl hy
  | c :: l, met, y, hy => by
    unfold goF at hy
    by_cases h1 : (step met c).1 = true
    · rw [if_pos h1] at hy
      rcases goF_reach hs l _ y hy with e | ⟨d, hd, e⟩
      · rcases hs met c y e with e | e
        · exact Or.inl e
        · exact Or.inr ⟨c, by simp, e⟩
      · exact Or.inr ⟨d, by simp [hd], e⟩
    · rw [if_neg h1] at hy
      rcases hs met c y hy with e | e
      · exact Or.inl e
      · exact Or.inr ⟨c, by simp, e⟩
theorem toF_reach (ch : Ch) : ∀ (N : Nat) (met : PrL) (x : Int × Int), ∀ y ∈ (toF ch N met x).2, y ∈ met ∨ Reach ch x y
  | 0, met, x, y, hy => Or.inl hy
  | N + 1, met, x, y, hy => by
    unfold toF at hy
    by_cases hm : x ∈ met
    · rw [if_pos hm] at hy
      exact Or.inl hy
    · rw [if_neg hm] at hy
      rcases goF_reach (ch := ch) (fun met x => toF_reach ch N met x) (ch x).2 (x :: met) y hy with e | ⟨c, hc, e⟩
      · rcases List.mem_cons.1 e with e | e
        · rw [e]; exact Or.inr (Reach.root ch x)
        · exact Or.inl e
      · exact Or.inr (Reach.head hc e)
theorem goF_nodup {step : PrL → Int × Int → Bool × PrL} (hs : ∀ met x, met.Nodup → (step met x).2.Nodup) : ∀ (l met : PrL), met.Nodup → (goF step l met).2.Nodup
  | [], met, h => h
  | c :: l, met, h => by
    unfold goF
    by_cases h1 : (step met c).1 = true
    · rw [if_pos h1]; exact goF_nodup hs l _ (hs met c h)
    · rw [if_neg h1]; exact hs met c h
theorem toF_nodup (ch : Ch) : ∀ (N : Nat) (met : PrL) (x : Int × Int), met.Nodup → (toF ch N met x).2.Nodup
  | 0, met, x, h => h
  | N + 1, met, x, h => by
    unfold toF
    by_cases hm : x ∈ met
    · rw [if_pos hm]; exact h
    · rw [if_neg hm]; exact goF_nodup (fun m y => toF_nodup ch N m y) _ _ (List.nodup_cons.2 ⟨hm, h⟩)
theorem goF_true {na nb N : Nat} {ch : Ch} (hc : ∀ x, InU na nb x → ∀ c ∈ (ch x).2, InU na nb c)
    (hs : ∀ met x, mu na nb met < N → InU na nb x → AllGood ch x → (toF ch N met x).1 = true) :
    ∀ (l met : PrL), mu na nb met < N → (∀ c ∈ l, InU na nb c ∧ AllGood ch c) → (goF (toF ch N) l met).1 = true
  | [], met, hm, hl => rfl
  | c :: l, met, hm, hl => by
    unfold goF
    have h1 := hs met c hm (hl c (by simp)).1 (hl c (by simp)).2
    rw [if_pos h1]
    have h2 : mu na nb (toF ch N met c).2 ≤ mu na nb met := mu_le (toF_sub ch N met c)
    exact goF_true hc hs l _ (by omega) (fun d hd => hl d (by simp [hd]))
theorem toF_true {na nb : Nat} {ch : Ch} (hc : ∀ x, InU na nb x → ∀ c ∈ (ch x).2, InU na nb c) : ∀ (N : Nat) (met : PrL) (x : Int × Int), mu na nb met < N → InU na nb x → AllGood ch x → (toF ch N met x).1 = true
  | 0, met, x, hm, _, _ => absurd hm (Nat.not_lt_zero _)
  | N + 1, met, x, hm, hx, hg => by
    unfold toF
    by_cases h : x ∈ met
    · rw [if_pos h]
    · rw [if_neg h]
      have h1 := mu_lt hx h
      have h2 := goF_true hc (fun met x => toF_true hc N met x) (ch x).2 (x :: met) (by omega) (fun c hcc => ⟨hc x hx c hcc, fun y hy => hg y (Reach.head hcc hy)⟩)
      show (_ && _) = true
      rw [h2, hg x (Reach.root ch x)]
      rfl
theorem toF_iff {na nb N : Nat} {ch : Ch} (hc : ∀ x, InU na nb x → ∀ c ∈ (ch x).2, InU na nb c) {r : Int × Int} (hr : InU na nb r) (hN : na * nb < N) : (toF ch N [] r).1 = true ↔ AllGood ch r := by
  constructor
  · intro h y hy
    obtain ⟨a1, a2, a3⟩ := toF_sound ch N [] r (toF ch N [] r).2 (by rw [← h])
    have hin : y ∈ (toF ch N [] r).2 := hy _ a1 fun x c hx hcc => by
      rcases a3 x hx with e | e
      · cases e
      · exact e.2 c hcc
    rcases a3 y hin with e | e
    · cases e
    · exact e.1
  · intro h
    exact toF_true hc N [] r (by rw [mu_nil]; exact hN) hr h
theorem toF_mem {N : Nat} {ch : Ch} {r : Int × Int} (h : (toF ch N [] r).1 = true) (y : Int × Int) : y ∈ (toF ch N [] r).2 ↔ Reach ch r y := by
  constructor
  · intro hy
    rcases toF_reach ch N [] r y hy with e | e
    · cases e
    · exact e
  · intro hy
    obtain ⟨a1, a2, a3⟩ := toF_sound ch N [] r (toF ch N [] r).2 (by rw [← h])
    exact hy _ a1 fun x c hx hcc => by
      rcases a3 x hx with e | e
      · cases e
      · exact e.2 c hcc
theorem share_mem {x : Int × Int} {met : PrL} : shareB x met = true ↔ ∃ y ∈ met, y.1 = x.1 ∨ y.2 = x.2 := by
  unfold shareB
  rw [List.any_eq_true]
  simp only [Bool.or_eq_true, decide_eq_true_eq]
theorem twN_iff : ∀ {met : PrL}, met.Nodup → (twN met = false ↔ ∀ x ∈ met, ∀ y ∈ met, (x.1 = y.1 ∨ x.2 = y.2) → x = y)
  | [], _ => ⟨fun _ x hx => absurd hx List.not_mem_nil, fun _ => rfl⟩
  | x :: met, h => by
    obtain ⟨h1, h2⟩ := List.nodup_cons.1 h
    have ih := twN_iff h2
    show (twN met || shareB x met) = false ↔ _
    rw [Bool.or_eq_false_iff, ih]
    constructor
    · rintro ⟨a, b⟩ u hu v hv e
      have hs : ∀ y ∈ met, ¬ (y.1 = x.1 ∨ y.2 = x.2) := fun y hy hyx => by
        have := share_mem.2 ⟨y, hy, hyx⟩
        rw [b] at this
        cases this
      rcases List.mem_cons.1 hu with e1 | e1 <;> rcases List.mem_cons.1 hv with e2 | e2
      · rw [e1, e2]
      · subst e1
        exact absurd (e.imp Eq.symm Eq.symm) (hs v e2)
      · subst e2
        exact absurd e (hs u e1)
      · exact a u e1 v e2 e
    · intro a
      refine ⟨fun u hu v hv e => a u (by simp [hu]) v (by simp [hv]) e, ?_⟩
      rw [Bool.eq_false_iff]
      intro hs
      obtain ⟨y, hy, e⟩ := share_mem.1 hs
      have := a y (by simp [hy]) x (by simp) e
      rw [this] at hy
      exact h1 hy
/-! ### entries, plainly -/
theorem entTo_some {ns : List Nd} {kids : List Int} {x : Int × ByteArray} {e : Int × Int} : ∀ n, entTo ns kids n x = some e → ∃ i, i < n ∧ keyAt ns (kids.getD (2 * i) 0) = x ∧ e = (kids.getD (2 * i) 0, kids.getD (2 * i + 1) 0)
  | 0, h => by cases h
  | n + 1, h => by
    unfold entTo at h
    split at h
    · rename_i hk
      injection h with h
      exact ⟨n, Nat.lt_succ_self _, hk, h.symm⟩
    · obtain ⟨i, h1, h2⟩ := entTo_some n h
      exact ⟨i, Nat.lt_succ_of_lt h1, h2⟩
theorem entTo_none {ns : List Nd} {kids : List Int} {x : Int × ByteArray} : ∀ n, entTo ns kids n x = none → ∀ i, i < n → keyAt ns (kids.getD (2 * i) 0) ≠ x
  | 0, h, i, hi => absurd hi (Nat.not_lt_zero _)
  | n + 1, h, i, hi => by
    unfold entTo at h
    split at h
    · cases h
    · rename_i hk
      rcases Nat.lt_succ_iff_lt_or_eq.1 hi with e | e
      · exact entTo_none n h i e
      · rw [e]; exact hk
/-- keys stand once -/
def Dist (ns : List Nd) (m : Nd) : Prop := m.kind = 6 → m.kids.length % 2 = 0 ∧ ∀ i j, 2 * i + 1 < m.kids.length → 2 * j + 1 < m.kids.length → keyAt ns (m.kids.getD (2 * i) 0) = keyAt ns (m.kids.getD (2 * j) 0) → i = j
theorem keysOk_dist {ns : List Nd} : ∀ (l : List Int) (met : List (Int × ByteArray)), keysOk ns l met = true → (∀ k ∈ l, keyAt ns k ∉ met) ∧ (l.map (keyAt ns)).Nodup
  | [], met, _ => ⟨fun k hk => absurd hk List.not_mem_nil, List.nodup_nil⟩
  | k :: l, met, h => by
    unfold keysOk at h
    simp only [Bool.and_eq_true, Bool.not_eq_true', decide_eq_false_iff_not] at h
    obtain ⟨_, h2, h3⟩ := h
    obtain ⟨a1, a2⟩ := keysOk_dist l _ h3
    refine ⟨fun j hj => ?_, ?_⟩
    · rcases List.mem_cons.1 hj with e | e
      · rw [e]; exact h2
      · exact fun hm => a1 j e (by simp [hm])
    · rw [List.map_cons, List.nodup_cons]
      refine ⟨fun hm => ?_, a2⟩
      obtain ⟨j, hj, e⟩ := List.mem_map.1 hm
      exact a1 j hj (by simp [e])
theorem nodup_getD {α : Type} {d : α} : ∀ {l : List α}, l.Nodup → ∀ i j, i < l.length → j < l.length → l.getD i d = l.getD j d → i = j
  | [], _, i, j, hi, _, _ => absurd hi (Nat.not_lt_zero _)
  | a :: l, h, i, j, hi, hj, e => by
    obtain ⟨h1, h2⟩ := List.nodup_cons.1 h
    have mem : ∀ k, k < l.length → l.getD k d ∈ l := fun k hk => by
      rw [List.getD_eq_getElem?_getD, List.getElem?_eq_getElem hk]
      exact List.getElem_mem hk
    cases i with
    | zero =>
      cases j with
      | zero => rfl
      | succ j =>
        rw [List.getD_cons_zero, List.getD_cons_succ] at e
        exact absurd (e ▸ mem j (by simpa using hj)) h1
    | succ i =>
      cases j with
      | zero =>
        rw [List.getD_cons_zero, List.getD_cons_succ] at e
        exact absurd (e ▸ mem i (by simpa using hi)) h1
      | succ j =>
        rw [List.getD_cons_succ, List.getD_cons_succ] at e
        rw [nodup_getD h2 i j (by simpa using hi) (by simpa using hj) e]
theorem right_dist {g : Gv} (h : rightN g = true) {m : Nd} (hm : m ∈ g.ns) : Dist g.ns m := by
  intro h6
  have h1 := right_node h hm
  unfold nodeB at h1
  simp only [Bool.and_eq_true, Bool.not_eq_true', Bool.and_eq_false_iff, decide_eq_false_iff_not] at h1
  have he := h1.2.2.2.2.1
  have hk := (keysOk_dist _ _ h1.2.2.2.2.2.2).2
  refine ⟨by rcases he with e | e <;> omega, fun i j hi hj e => ?_⟩
  unfold keysN at hk
  rw [if_pos h6] at hk
  unfold evens at hk
  have hl : (((List.range (m.kids.length / 2)).map fun j => m.kids.getD (2 * j) 0).map (keyAt g.ns)).length = m.kids.length / 2 := by simp
  have hg : ∀ k, k < m.kids.length / 2 → (((List.range (m.kids.length / 2)).map fun j => m.kids.getD (2 * j) 0).map (keyAt g.ns)).getD k (0, ⟨#[]⟩) = keyAt g.ns (m.kids.getD (2 * k) 0) := fun k hk => by
    simp [List.getD_eq_getElem?_getD, hk]
  exact nodup_getD hk i j (by rw [hl]; omega) (by rw [hl]; omega) (by rw [hg i (by omega), hg j (by omega)]; exact e)
theorem entTo_at {ns : List Nd} {m : Nd} (hd : Dist ns m) (h6 : m.kind = 6) {i : Nat} (hi : 2 * i + 1 < m.kids.length) : entTo ns m.kids (m.kids.length / 2) (keyAt ns (m.kids.getD (2 * i) 0)) = some (m.kids.getD (2 * i) 0, m.kids.getD (2 * i + 1) 0) := by
  cases h : entTo ns m.kids (m.kids.length / 2) (keyAt ns (m.kids.getD (2 * i) 0)) with
  | none => exact absurd rfl (entTo_none _ h i (by omega))
  | some e =>
    obtain ⟨j, h1, h2, h3⟩ := entTo_some _ h
    rw [h3, (hd h6).2 j i (by omega) hi h2]
/-! ### the kids of a pair, plainly -/
def GoodR (a b : Gv) (ord : Bool) (x : Int × Int) : Prop :=
  (ndOf a x.1).kind = (ndOf b x.2).kind ∧ (ndOf a x.1).txt = (ndOf b x.2).txt ∧ (ndOf a x.1).kids.length = (ndOf b x.2).kids.length ∧
  ((ndOf a x.1).kind = 6 → ord = false → ∀ i, 2 * i + 1 < (ndOf a x.1).kids.length → ∃ j, 2 * j + 1 < (ndOf b x.2).kids.length ∧ keyAt a.ns ((ndOf a x.1).kids.getD (2 * i) 0) = keyAt b.ns ((ndOf b x.2).kids.getD (2 * j) 0))
def KidR (a b : Gv) (ord : Bool) (x c : Int × Int) : Prop :=
  ((ndOf a x.1).kind = 6 ∧ ord = false ∧ ∃ i j, 2 * i + 1 < (ndOf a x.1).kids.length ∧ 2 * j + 1 < (ndOf b x.2).kids.length ∧ keyAt a.ns ((ndOf a x.1).kids.getD (2 * i) 0) = keyAt b.ns ((ndOf b x.2).kids.getD (2 * j) 0) ∧
    (c = ((ndOf a x.1).kids.getD (2 * i) 0, (ndOf b x.2).kids.getD (2 * j) 0) ∨ c = ((ndOf a x.1).kids.getD (2 * i + 1) 0, (ndOf b x.2).kids.getD (2 * j + 1) 0))) ∨
  (¬ ((ndOf a x.1).kind = 6 ∧ ord = false) ∧ ∃ i, i < (ndOf a x.1).kids.length ∧ i < (ndOf b x.2).kids.length ∧ c = ((ndOf a x.1).kids.getD i 0, (ndOf b x.2).kids.getD i 0))
theorem mapsTo_true {A B : List Nd} {xk yk : List Int} : ∀ n, (mapsTo A B xk yk n).1 = true ↔ ∀ i, i < n → ∃ e, entTo B yk (yk.length / 2) (keyAt A (xk.getD (2 * i) 0)) = some e
  | 0 => ⟨fun _ i hi => absurd hi (Nat.not_lt_zero _), fun _ => rfl⟩
  | n + 1 => by
    have ih := mapsTo_true (A := A) (B := B) (xk := xk) (yk := yk) n
    by_cases h1 : (mapsTo A B xk yk n).1 = true
    · cases he : entTo B yk (yk.length / 2) (keyAt A (xk.getD (2 * n) 0)) with
      | none =>
        rw [mapsTo_none h1 he]
        refine ⟨fun h => (by cases h), fun h => ?_⟩
        obtain ⟨e, h9⟩ := h n (Nat.lt_succ_self _)
        rw [he] at h9
        cases h9
      | some e =>
        rw [mapsTo_some h1 he]
        refine ⟨fun _ i hi => ?_, fun _ => rfl⟩
        rcases Nat.lt_succ_iff_lt_or_eq.1 hi with e1 | e1
        · exact ih.1 h1 i e1
        · rw [e1]; exact ⟨e, he⟩
    · rw [mapsTo_false (by simpa using h1) (n + 1) (Nat.le_succ _)]
      exact ⟨fun h => absurd h h1, fun h => absurd (ih.2 fun i hi => h i (Nat.lt_succ_of_lt hi)) h1⟩
theorem mapsTo_list {A B : List Nd} {xk yk : List Int} : ∀ n, (mapsTo A B xk yk n).1 = true → ∀ c, c ∈ (mapsTo A B xk yk n).2 ↔ ∃ i e, i < n ∧ entTo B yk (yk.length / 2) (keyAt A (xk.getD (2 * i) 0)) = some e ∧ (c = (xk.getD (2 * i) 0, e.1) ∨ c = (xk.getD (2 * i + 1) 0, e.2))
  | 0, _, c => ⟨fun h => (by cases h), fun ⟨i, e, hi, _⟩ => absurd hi (Nat.not_lt_zero _)⟩
  | n + 1, h, c => by
    have h1 : (mapsTo A B xk yk n).1 = true := (mapsTo_true n).2 fun i hi => (mapsTo_true (n + 1)).1 h i (Nat.lt_succ_of_lt hi)
    obtain ⟨e, he⟩ := (mapsTo_true (n + 1)).1 h n (Nat.lt_succ_self _)
    have ih := mapsTo_list (A := A) (B := B) (xk := xk) (yk := yk) n h1 c
    rw [mapsTo_some h1 he]
    simp only [List.mem_append, List.mem_cons, List.not_mem_nil, or_false]
    rw [ih]
    constructor
    · rintro (⟨i, f, hi, h2⟩ | h2)
      · exact ⟨i, f, Nat.lt_succ_of_lt hi, h2⟩
      · exact ⟨n, e, Nat.lt_succ_self _, he, h2⟩
    · rintro ⟨i, f, hi, h2, h3⟩
      rcases Nat.lt_succ_iff_lt_or_eq.1 hi with e1 | e1
      · exact Or.inl ⟨i, f, e1, h2, h3⟩
      · subst e1
        rw [he] at h2
        injection h2 with h2
        subst h2
        exact Or.inr h3
theorem zip_mem {c : Int × Int} : ∀ {l m : List Int}, c ∈ l.zip m ↔ ∃ i, i < l.length ∧ i < m.length ∧ c = (l.getD i 0, m.getD i 0) := by
  intro l m
  constructor
  · intro h
    obtain ⟨i, hi, e⟩ := List.mem_iff_getElem.1 h
    rw [List.length_zip] at hi
    refine ⟨i, by omega, by omega, ?_⟩
    rw [← e, List.getElem_zip, List.getD_eq_getElem?_getD, List.getD_eq_getElem?_getD, List.getElem?_eq_getElem (by omega), List.getElem?_eq_getElem (by omega)]
    rfl
  · rintro ⟨i, h1, h2, rfl⟩
    refine List.mem_iff_getElem.2 ⟨i, by rw [List.length_zip]; omega, ?_⟩
    rw [List.getElem_zip, List.getD_eq_getElem?_getD, List.getD_eq_getElem?_getD, List.getElem?_eq_getElem h1, List.getElem?_eq_getElem h2]
    rfl
theorem ch_good {a b : Gv} {ord : Bool} {x : Int × Int} (da : Dist a.ns (ndOf a x.1)) (db : Dist b.ns (ndOf b x.2)) : (chN a b ord x).1 = true ↔ GoodR a b ord x := by
  unfold chN GoodR
  by_cases h1 : (ndOf a x.1).kind = (ndOf b x.2).kind ∧ (ndOf a x.1).txt = (ndOf b x.2).txt ∧ (ndOf a x.1).kids.length = (ndOf b x.2).kids.length
  · rw [if_pos h1]
    obtain ⟨k1, k2, k3⟩ := h1
    by_cases h2 : (ndOf a x.1).kind = 6 ∧ ord = false
    · rw [if_pos h2, mapsTo_true]
      constructor
      · intro h
        refine ⟨k1, k2, k3, fun _ _ i hi => ?_⟩
        obtain ⟨e, he⟩ := h i (by omega)
        obtain ⟨j, j1, j2, j3⟩ := entTo_some _ he
        exact ⟨j, by omega, j2.symm⟩
      · rintro ⟨_, _, _, h⟩ i hi
        have hev := (da h2.1).1
        obtain ⟨j, j1, j2⟩ := h h2.1 h2.2 i (by omega)
        rw [j2]
        exact ⟨_, entTo_at db (k1 ▸ h2.1) j1⟩
    · rw [if_neg h2]
      exact ⟨fun _ => ⟨k1, k2, k3, fun e1 e2 => absurd ⟨e1, e2⟩ h2⟩, fun _ => rfl⟩
  · rw [if_neg h1]
    exact ⟨fun h => (by cases h), fun h => absurd ⟨h.1, h.2.1, h.2.2.1⟩ h1⟩
theorem ch_kid {a b : Gv} {ord : Bool} {x : Int × Int} (da : Dist a.ns (ndOf a x.1)) (db : Dist b.ns (ndOf b x.2)) (hg : (chN a b ord x).1 = true) (c : Int × Int) : c ∈ (chN a b ord x).2 ↔ KidR a b ord x c := by
  have hr := (ch_good da db).1 hg
  obtain ⟨k1, k2, k3, k4⟩ := hr
  unfold chN at hg ⊢
  rw [if_pos ⟨k1, k2, k3⟩] at hg ⊢
  unfold KidR
  by_cases h2 : (ndOf a x.1).kind = 6 ∧ ord = false
  · rw [if_pos h2] at hg ⊢
    rw [mapsTo_list _ hg]
    have hev := (da h2.1).1
    constructor
    · rintro ⟨i, e, hi, he, hc⟩
      obtain ⟨j, j1, j2, j3⟩ := entTo_some _ he
      subst j3
      exact Or.inl ⟨h2.1, h2.2, i, j, by omega, by omega, j2.symm, hc⟩
    · rintro (⟨_, _, i, j, hi, hj, hk, hc⟩ | ⟨hn, _⟩)
      · exact ⟨i, _, by omega, by rw [hk]; exact entTo_at db (k1 ▸ h2.1) hj, hc⟩
      · exact absurd h2 hn
  · rw [if_neg h2]
    show c ∈ (ndOf a x.1).kids.zip (ndOf b x.2).kids ↔ _
    rw [zip_mem]
    constructor
    · intro h
      exact Or.inr ⟨h2, h⟩
    · rintro (⟨h3, h4, _⟩ | ⟨_, h⟩)
      · exact absurd ⟨h3, h4⟩ h2
      · exact h
end Go.Proofs.YtpgncjfmaeiaaaaDoor.Is
