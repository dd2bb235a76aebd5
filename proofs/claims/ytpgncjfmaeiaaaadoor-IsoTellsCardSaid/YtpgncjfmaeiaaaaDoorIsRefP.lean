/- What the document's list of pairs asks, plainly. No program. -/
import Derived.Test.YtpgncjfmaeiaaaaDoorIsLaws
set_option linter.unusedVariables false
namespace Go.Proofs.YtpgncjfmaeiaaaaDoor.Is
/-- a pair is so, by the document: keys are looked for; in order: at the same place -/
def GoodO (a b : Gv) (ord : Bool) (x : Int × Int) : Prop :=
  (ndOf a x.1).kind = (ndOf b x.2).kind ∧ (ndOf a x.1).txt = (ndOf b x.2).txt ∧ (ndOf a x.1).kids.length = (ndOf b x.2).kids.length ∧
  ((ndOf a x.1).kind = 6 → ∀ i, 2 * i + 1 < (ndOf a x.1).kids.length → ∃ j, 2 * j + 1 < (ndOf b x.2).kids.length ∧ keyAt a.ns ((ndOf a x.1).kids.getD (2 * i) 0) = keyAt b.ns ((ndOf b x.2).kids.getD (2 * j) 0) ∧ (ord = true → j = i))
theorem ago_iff {a b : Gv} {ord : Bool} (ra : rightN a = true) (rb : rightN b = true) : (∀ y, RchR a b ord y → GoodO a b ord y) ↔ AG a b ord := by
  constructor
  · intro h y hy
    obtain ⟨h1, h2, h3, h4⟩ := h y hy
    exact ⟨h1, h2, h3, fun h6 _ i hi => by obtain ⟨j, j1, j2, _⟩ := h4 h6 i hi; exact ⟨j, j1, j2⟩⟩
  · intro h y hy
    obtain ⟨h1, h2, h3, h4⟩ := h y hy
    refine ⟨h1, h2, h3, fun h6 i hi => ?_⟩
    cases ord with
    | false =>
      obtain ⟨j, j1, j2⟩ := h4 h6 rfl i hi
      exact ⟨j, j1, j2, fun e => by cases e⟩
    | true =>
      have hr := hy.kid (c := ((ndOf a y.1).kids.getD (2 * i) 0, (ndOf b y.2).kids.getD (2 * i) 0)) (Or.inr ⟨fun h9 => (by cases h9.2), 2 * i, by omega, by omega, rfl⟩)
      have hg := h _ hr
      exact ⟨i, by omega, Prod.ext hg.1 hg.2.1, fun _ => rfl⟩
/-- the place of the first key that is this one, among the first ones; none: there is none -/
def keyIx (ns : List Nd) (kids : List Int) (x : Int × ByteArray) : Nat → Nat → Option Nat
  | 0, i => none
  | n + 1, i => if keyAt ns (kids.getD (2 * i) 0) = x then some i else keyIx ns kids x n (i + 1)
theorem keyIx_some {ns : List Nd} {kids : List Int} {x : Int × ByteArray} : ∀ n i j, keyIx ns kids x n i = some j → i ≤ j ∧ j < i + n ∧ keyAt ns (kids.getD (2 * j) 0) = x
  | 0, i, j, h => by cases h
  | n + 1, i, j, h => by
    unfold keyIx at h
    split at h
    · rename_i hk
      injection h with h
      subst h
      exact ⟨Nat.le_refl _, by omega, hk⟩
    · obtain ⟨h1, h2, h3⟩ := keyIx_some n (i + 1) j h
      exact ⟨by omega, by omega, h3⟩
theorem keyIx_none {ns : List Nd} {kids : List Int} {x : Int × ByteArray} : ∀ n i, keyIx ns kids x n i = none → ∀ j, i ≤ j → j < i + n → keyAt ns (kids.getD (2 * j) 0) ≠ x
  | 0, i, h, j, h1, h2 => absurd h2 (by omega)
  | n + 1, i, h, j, h1, h2 => by
    unfold keyIx at h
    split at h
    · cases h
    · rename_i hk
      by_cases e : j = i
      · rw [e]; exact hk
      · exact keyIx_none n (i + 1) h j (by omega) (by omega)
theorem keyIx_is {ns : List Nd} {m : Nd} (hd : Dist ns m) (h6 : m.kind = 6) {j : Nat} (hj : 2 * j + 1 < m.kids.length) {x : Int × ByteArray} (hx : keyAt ns (m.kids.getD (2 * j) 0) = x) : keyIx ns m.kids x (m.kids.length / 2) 0 = some j := by
  cases h : keyIx ns m.kids x (m.kids.length / 2) 0 with
  | none => exact absurd hx (keyIx_none _ _ h j (by omega) (by omega))
  | some i =>
    obtain ⟨h1, h2, h3⟩ := keyIx_some _ _ _ h
    rw [(hd h6).2 i j (by omega) hj (h3.trans hx.symm)]
/-- where the kid at k is looked for in the other node -/
def otherIx (a b : Gv) (x : Int × Int) (k : Nat) : Option Nat :=
  if (ndOf a x.1).kind = 6 then (keyIx b.ns (ndOf b x.2).kids (keyAt a.ns ((ndOf a x.1).kids.getD (k - k % 2) 0)) ((ndOf b x.2).kids.length / 2) 0).map fun i => 2 * i + k % 2
  else some k
/-- the pair of the kid at k -/
def pairAt (a b : Gv) (x : Int × Int) (k : Nat) : Int × Int := ((ndOf a x.1).kids.getD k 0, (ndOf b x.2).kids.getD ((otherIx a b x k).getD 0) 0)
theorem other_good {a b : Gv} {ord : Bool} {x : Int × Int} (da : Dist a.ns (ndOf a x.1)) (db : Dist b.ns (ndOf b x.2)) (h : GoodO a b ord x) {k : Nat} (hk : k < (ndOf a x.1).kids.length) : ∃ j, otherIx a b x k = some j ∧ j < (ndOf b x.2).kids.length ∧ ((ndOf a x.1).kind = 6 → ord = true → j = k) := by
  obtain ⟨h1, h2, h3, h4⟩ := h
  unfold otherIx
  by_cases h6 : (ndOf a x.1).kind = 6
  · rw [if_pos h6]
    have hev := (da h6).1
    obtain ⟨j, j1, j2, j3⟩ := h4 h6 (k / 2) (by omega)
    have e : k - k % 2 = 2 * (k / 2) := by omega
    rw [e, keyIx_is db (h1 ▸ h6) j1 j2.symm]
    exact ⟨2 * j + k % 2, rfl, by omega, fun _ ho => by have := j3 ho; omega⟩
  · rw [if_neg h6]
    exact ⟨k, rfl, by omega, fun h => absurd h h6⟩
theorem kid_at {a b : Gv} {ord : Bool} {x : Int × Int} (da : Dist a.ns (ndOf a x.1)) (db : Dist b.ns (ndOf b x.2)) (h : GoodO a b ord x) (c : Int × Int) : KidR a b ord x c ↔ ∃ k, k < (ndOf a x.1).kids.length ∧ c = pairAt a b x k := by
  obtain ⟨h1, h2, h3, h4⟩ := h
  have og := fun k hk => other_good (k := k) da db ⟨h1, h2, h3, h4⟩ hk
  by_cases h6 : (ndOf a x.1).kind = 6
  · have hev := (da h6).1
    have at_ : ∀ i j, 2 * i + 1 < (ndOf a x.1).kids.length → 2 * j + 1 < (ndOf b x.2).kids.length → keyAt a.ns ((ndOf a x.1).kids.getD (2 * i) 0) = keyAt b.ns ((ndOf b x.2).kids.getD (2 * j) 0) → pairAt a b x (2 * i) = ((ndOf a x.1).kids.getD (2 * i) 0, (ndOf b x.2).kids.getD (2 * j) 0) ∧ pairAt a b x (2 * i + 1) = ((ndOf a x.1).kids.getD (2 * i + 1) 0, (ndOf b x.2).kids.getD (2 * j + 1) 0) := fun i j i1 j1 e => by
      have k1 := keyIx_is db (h1 ▸ h6) j1 e.symm
      unfold pairAt otherIx
      rw [if_pos h6, if_pos h6, show 2 * i - 2 * i % 2 = 2 * i by omega, show 2 * i + 1 - (2 * i + 1) % 2 = 2 * i by omega, k1]
      simp only [Option.map_some, Option.getD_some]
      rw [show 2 * i % 2 = 0 by omega, show (2 * i + 1) % 2 = 1 by omega]
      exact ⟨rfl, rfl⟩
    constructor
    · rintro (⟨_, _, i, j, i1, j1, e, hc⟩ | ⟨hn, i, i1, i2, hc⟩)
      · obtain ⟨p1, p2⟩ := at_ i j i1 j1 e
        rcases hc with rfl | rfl
        · exact ⟨2 * i, by omega, p1.symm⟩
        · exact ⟨2 * i + 1, i1, p2.symm⟩
      · obtain ⟨j, e, j1, j2⟩ := og i i1
        have ho : ord = true := by cases ord with | false => exact absurd ⟨h6, rfl⟩ hn | true => rfl
        refine ⟨i, i1, ?_⟩
        unfold pairAt
        rw [e, Option.getD_some, j2 h6 ho]
        exact hc
    · rintro ⟨k, hk, rfl⟩
      obtain ⟨j, j1, j2, j3⟩ := h4 h6 (k / 2) (by omega)
      obtain ⟨p1, p2⟩ := at_ (k / 2) j (by omega) j1 j2
      cases ord with
      | false =>
        refine Or.inl ⟨h6, rfl, k / 2, j, by omega, j1, j2, ?_⟩
        rcases Nat.mod_two_eq_zero_or_one k with e | e
        · have : 2 * (k / 2) = k := by omega
          rw [this] at p1 ⊢
          exact Or.inl p1
        · have : 2 * (k / 2) + 1 = k := by omega
          rw [this] at p2 ⊢
          exact Or.inr p2
      | true =>
        obtain ⟨j', e, e1, e2⟩ := og k hk
        refine Or.inr ⟨fun h9 => (by cases h9.2), k, hk, by omega, ?_⟩
        unfold pairAt
        rw [e, Option.getD_some, e2 h6 rfl]
  · have at_ : ∀ k, pairAt a b x k = ((ndOf a x.1).kids.getD k 0, (ndOf b x.2).kids.getD k 0) := fun k => by
      unfold pairAt otherIx
      rw [if_neg h6]
      rfl
    constructor
    · rintro (⟨h, _⟩ | ⟨hn, i, i1, i2, hc⟩)
      · exact absurd h h6
      · exact ⟨i, i1, by rw [at_]; exact hc⟩
    · rintro ⟨k, hk, rfl⟩
      exact Or.inr ⟨fun h9 => h6 h9.1, k, hk, by omega, at_ k⟩
/-- the list under way -/
structure PairsInv (a b : Gv) (ord : Bool) (l : PrL) (i : Nat) : Prop where
  nodup : l.Nodup
  reach : ∀ x ∈ l, RchR a b ord x
  root : (a.root, b.root) ∈ l
  done : ∀ k x, k < i → l[k]? = some x → GoodO a b ord x ∧ ∀ c, KidR a b ord x c → c ∈ l
theorem PairsInv.start (a b : Gv) (ord : Bool) : PairsInv a b ord [(a.root, b.root)] 0 :=
  ⟨by simp, fun x hx => by rw [List.mem_singleton.1 hx]; exact RchR.root a b ord, by simp, fun k x hk => absurd hk (Nat.not_lt_zero _)⟩
theorem PairsInv.all {a b : Gv} {ord : Bool} {l : PrL} (h : PairsInv a b ord l l.length) : (∀ y, RchR a b ord y ↔ y ∈ l) ∧ ∀ y, RchR a b ord y → GoodO a b ord y := by
  have key : ∀ y, RchR a b ord y → y ∈ l := fun y hy => hy (fun y => y ∈ l) h.root fun x c hx hc => by
    obtain ⟨k, hk, e⟩ := List.mem_iff_getElem.1 hx
    exact (h.done k x hk (by rw [List.getElem?_eq_getElem hk, e])).2 c hc
  refine ⟨fun y => ⟨key y, h.reach y⟩, fun y hy => ?_⟩
  obtain ⟨k, hk, e⟩ := List.mem_iff_getElem.1 (key y hy)
  exact (h.done k y hk (by rw [List.getElem?_eq_getElem hk, e])).1
end Go.Proofs.YtpgncjfmaeiaaaaDoor.Is
