/- The three relations of graphs, plainly: of itself, turned round, over a third one, one within the other. No program. -/
import Derived.Test.YtpgncjfmaeiaaaaDoorIsRel
set_option linter.unusedVariables false
namespace Go.Proofs.YtpgncjfmaeiaaaaDoor.Is
/-- the pairs that are reached -/
def RchR (a b : Gv) (ord : Bool) (y : Int × Int) : Prop := ∀ S : Int × Int → Prop, S (a.root, b.root) → (∀ x c, S x → KidR a b ord x c → S c) → S y
theorem RchR.root (a b : Gv) (ord : Bool) : RchR a b ord (a.root, b.root) := fun S h0 _ => h0
theorem RchR.kid {a b : Gv} {ord : Bool} {x c : Int × Int} (h : RchR a b ord x) (hc : KidR a b ord x c) : RchR a b ord c := fun S h0 h1 => h1 x c (h S h0 h1) hc
def AG (a b : Gv) (ord : Bool) : Prop := ∀ y, RchR a b ord y → GoodR a b ord y
def One (a b : Gv) (ord : Bool) : Prop := ∀ x y, RchR a b ord x → RchR a b ord y → (x.1 = y.1 ∨ x.2 = y.2) → x = y
def TellP (a b : Gv) (ord once : Bool) : Prop := AG a b ord ∧ (once = true → One a b ord)
def tellN (a b : Gv) (ord once : Bool) : Bool := (toF (chN a b ord) (a.ns.length * b.ns.length + 1) [] (a.root, b.root)).1 && !(once && twN (toF (chN a b ord) (a.ns.length * b.ns.length + 1) [] (a.root, b.root)).2)
theorem kid_mem {a b : Gv} {ord : Bool} {x c : Int × Int} (h : KidR a b ord x c) : c.1 ∈ (ndOf a x.1).kids ∧ c.2 ∈ (ndOf b x.2).kids := by
  rcases h with ⟨_, _, i, j, h1, h2, _, h3⟩ | ⟨_, i, h1, h2, h3⟩
  · rcases h3 with rfl | rfl
    · exact ⟨getD_mem (by omega), getD_mem (by omega)⟩
    · exact ⟨getD_mem h1, getD_mem h2⟩
  · subst h3
    exact ⟨getD_mem h1, getD_mem h2⟩
theorem root_in {a b : Gv} (ra : rightN a = true) (rb : rightN b = true) : InU a.ns.length b.ns.length (a.root, b.root) := ⟨(right_len ra).2.2.1, (right_len ra).2.2.2, (right_len rb).2.2.1, (right_len rb).2.2.2⟩
theorem in_ns {g : Gv} {k : Int} (h1 : 0 ≤ k) (h2 : k < g.ns.length) : ndOf g k ∈ g.ns := getD_memD (by omega)
theorem kid_in {a b : Gv} {ord : Bool} {x c : Int × Int} (ra : rightN a = true) (rb : rightN b = true) (hx : InU a.ns.length b.ns.length x) (h : KidR a b ord x c) : InU a.ns.length b.ns.length c := by
  obtain ⟨h1, h2, h3, h4⟩ := hx
  obtain ⟨m1, m2⟩ := kid_mem h
  have k1 := right_kids ra (in_ns h1 h2) _ m1
  have k2 := right_kids rb (in_ns h3 h4) _ m2
  exact ⟨k1.1, k1.2, k2.1, k2.2⟩
theorem rch_in {a b : Gv} {ord : Bool} {y : Int × Int} (ra : rightN a = true) (rb : rightN b = true) (h : RchR a b ord y) : InU a.ns.length b.ns.length y := h _ (root_in ra rb) fun _ _ hx hc => kid_in ra rb hx hc
theorem dist_l {a : Gv} {k : Int} (ra : rightN a = true) (h1 : 0 ≤ k) (h2 : k < a.ns.length) : Dist a.ns (ndOf a k) := right_dist ra (in_ns h1 h2)
theorem reach_rch {a b : Gv} {ord : Bool} {y : Int × Int} (ra : rightN a = true) (rb : rightN b = true) (hg : AG a b ord) (h : Reach (chN a b ord) (a.root, b.root) y) : RchR a b ord y := by
  refine h _ (RchR.root a b ord) fun x c hx hc => ?_
  obtain ⟨h1, h2, h3, h4⟩ := rch_in ra rb hx
  have da := dist_l ra h1 h2
  have db := dist_l rb h3 h4
  exact hx.kid ((ch_kid da db ((ch_good da db).2 (hg x hx)) c).1 hc)
theorem rch_reach {a b : Gv} {ord : Bool} {y : Int × Int} (ra : rightN a = true) (rb : rightN b = true) (hg : AllGood (chN a b ord) (a.root, b.root)) (h : RchR a b ord y) : Reach (chN a b ord) (a.root, b.root) y := by
  refine (h (fun z => Reach (chN a b ord) (a.root, b.root) z ∧ InU a.ns.length b.ns.length z) ⟨Reach.root _ _, root_in ra rb⟩ fun x c hx hc => ?_).1
  obtain ⟨h1, h2, h3, h4⟩ := hx.2
  have da := dist_l ra h1 h2
  have db := dist_l rb h3 h4
  exact ⟨hx.1.kid ((ch_kid da db (hg x hx.1) c).2 hc), kid_in ra rb hx.2 hc⟩
theorem ag_iff {a b : Gv} {ord : Bool} (ra : rightN a = true) (rb : rightN b = true) : AllGood (chN a b ord) (a.root, b.root) ↔ AG a b ord := by
  constructor
  · intro hg y hy
    obtain ⟨h1, h2, h3, h4⟩ := rch_in ra rb hy
    exact (ch_good (dist_l ra h1 h2) (dist_l rb h3 h4)).1 (hg y (rch_reach ra rb hg hy))
  · intro hg y hy
    have hr := reach_rch ra rb hg hy
    obtain ⟨h1, h2, h3, h4⟩ := rch_in ra rb hr
    exact (ch_good (dist_l ra h1 h2) (dist_l rb h3 h4)).2 (hg y hr)
theorem tell_iff {a b : Gv} {ord once : Bool} (ra : rightN a = true) (rb : rightN b = true) : tellN a b ord once = true ↔ TellP a b ord once := by
  unfold tellN
  have hi := toF_iff (ch := chN a b ord) (N := a.ns.length * b.ns.length + 1) (chN_in ra rb) (root_in ra rb) (Nat.lt_succ_self _)
  have hm := toF_mem (ch := chN a b ord) (N := a.ns.length * b.ns.length + 1) (r := (a.root, b.root))
  have hd := toF_nodup (chN a b ord) (a.ns.length * b.ns.length + 1) [] (a.root, b.root) List.nodup_nil
  generalize toF (chN a b ord) (a.ns.length * b.ns.length + 1) [] (a.root, b.root) = r at hi hm hd
  rw [ag_iff ra rb] at hi
  unfold TellP
  rw [← hi, Bool.and_eq_true]
  constructor
  · rintro ⟨h1, h2⟩
    refine ⟨h1, fun ho x y hx hy e => ?_⟩
    subst ho
    simp only [Bool.true_and, Bool.not_eq_true'] at h2
    have hg := (ag_iff ra rb).2 (hi.1 h1)
    exact (twN_iff hd).1 h2 x ((hm h1 x).2 (rch_reach ra rb hg hx)) y ((hm h1 y).2 (rch_reach ra rb hg hy)) e
  · rintro ⟨h1, h2⟩
    refine ⟨h1, ?_⟩
    cases once with
    | false => rfl
    | true =>
      simp only [Bool.true_and, Bool.not_eq_true']
      exact (twN_iff hd).2 fun x hx y hy e => h2 rfl x y (reach_rch ra rb (hi.1 h1) ((hm h1 x).1 hx)) (reach_rch ra rb (hi.1 h1) ((hm h1 y).1 hy)) e
/-! ### of itself -/
theorem tell_refl {a : Gv} (ra : rightN a = true) (ord once : Bool) : TellP a a ord once := by
  have hd : ∀ y, RchR a a ord y → y.1 = y.2 ∧ InU a.ns.length a.ns.length y := fun y hy => hy (fun y => y.1 = y.2 ∧ InU a.ns.length a.ns.length y) ⟨rfl, root_in ra ra⟩ fun x c hx hc => by
    refine ⟨?_, kid_in ra ra hx.2 hc⟩
    obtain ⟨x1, x2⟩ := x
    obtain ⟨he, h1, h2, h3, h4⟩ := hx
    simp only at he h1 h2
    subst he
    rcases hc with ⟨h6, _, i, j, i1, j1, hk, h⟩ | ⟨_, i, i1, i2, h⟩
    · obtain rfl := (dist_l ra h1 h2 h6).2 i j i1 j1 hk
      rcases h with rfl | rfl <;> rfl
    · subst h
      rfl
  refine ⟨fun y hy => ?_, fun _ x y hx hy e => ?_⟩
  · obtain ⟨y1, y2⟩ := y
    have he : y1 = y2 := (hd _ hy).1
    subst he
    exact ⟨rfl, rfl, rfl, fun _ _ i hi => ⟨i, hi, rfl⟩⟩
  · have h1 := (hd x hx).1
    have h2 := (hd y hy).1
    obtain ⟨x1, x2⟩ := x
    obtain ⟨y1, y2⟩ := y
    simp only at h1 h2 e
    subst h1 h2
    rcases e with e | e <;> rw [e]
/-! ### turned round -/
theorem inj_len {α β : Type} [DecidableEq β] {R : α → β → Prop} (hR : ∀ x x' y, R x y → R x' y → x = x') : ∀ (l : List α) (m : List β), l.Nodup → (∀ x ∈ l, ∃ y ∈ m, R x y) → l.length ≤ m.length
  | [], m, _, _ => Nat.zero_le _
  | x :: l, m, hn, h => by
    obtain ⟨h1, h2⟩ := List.nodup_cons.1 hn
    obtain ⟨y, hy, hxy⟩ := h x (by simp)
    have ih := inj_len hR l (m.erase y) h2 fun z hz => by
      obtain ⟨u, hu, hzu⟩ := h z (by simp [hz])
      refine ⟨u, (List.mem_erase_of_ne ?_).2 hu, hzu⟩
      intro e
      rw [e] at hzu
      rw [hR z x y hzu hxy] at hz
      exact h1 hz
    rw [List.length_erase_of_mem hy] at ih
    have := List.length_pos_of_mem hy
    rw [List.length_cons]
    omega
theorem rangemap_nodup {β : Type} {f : Nat → β} {n : Nat} (h : ∀ i j, i < n → j < n → f i = f j → i = j) : ((List.range n).map f).Nodup := by
  refine List.pairwise_map.2 (List.Pairwise.imp_of_mem (fun {i j} hi hj hne e => ?_) List.nodup_range)
  exact hne (h i j (List.mem_range.1 hi) (List.mem_range.1 hj) e)
theorem onto_of {α : Type} [DecidableEq α] {l m : List α} (hl : l.Nodup) (hs : ∀ x ∈ l, x ∈ m) (hn : m.length ≤ l.length) : ∀ y ∈ m, y ∈ l := by
  intro y hy
  apply Classical.byContradiction
  intro hc
  have h1 := inj_len (R := fun (x : α) (z : α) => x = z) (fun x x' z e e' => e.trans e'.symm) l (m.erase y) hl fun x hx => ⟨x, (List.mem_erase_of_ne (by intro e; rw [e] at hx; exact hc hx)).2 (hs x hx), rfl⟩
  rw [List.length_erase_of_mem hy] at h1
  have := List.length_pos_of_mem hy
  omega
theorem good_symm {a b : Gv} {ord : Bool} {x : Int × Int} (da : Dist a.ns (ndOf a x.1)) (db : Dist b.ns (ndOf b x.2)) (h : GoodR a b ord x) : GoodR b a ord (x.2, x.1) := by
  obtain ⟨h1, h2, h3, h4⟩ := h
  refine ⟨h1.symm, h2.symm, h3.symm, fun h6 ho j hj => ?_⟩
  have h6a : (ndOf a x.1).kind = 6 := h1.trans h6
  have ea := da h6a
  have hj : 2 * j + 1 < (ndOf b x.2).kids.length := hj
  have KA : ((List.range ((ndOf a x.1).kids.length / 2)).map fun i => keyAt a.ns ((ndOf a x.1).kids.getD (2 * i) 0)).Nodup := by
    exact rangemap_nodup fun i j hi hj e => ea.2 i j (by omega) (by omega) e
  have hs := onto_of KA (m := (List.range ((ndOf b x.2).kids.length / 2)).map fun i => keyAt b.ns ((ndOf b x.2).kids.getD (2 * i) 0)) (fun k hk => by
    obtain ⟨i, hi, rfl⟩ := List.mem_map.1 hk
    rw [List.mem_range] at hi
    obtain ⟨j, j1, j2⟩ := h4 h6a ho i (by omega)
    exact List.mem_map.2 ⟨j, List.mem_range.2 (by omega), j2.symm⟩) (by simp only [List.length_map, List.length_range]; omega)
  obtain ⟨i, hi, e⟩ := List.mem_map.1 (hs _ (List.mem_map.2 ⟨j, List.mem_range.2 (by omega), rfl⟩))
  rw [List.mem_range] at hi
  exact ⟨i, by show 2 * i + 1 < (ndOf a x.1).kids.length; omega, e.symm⟩
theorem kid_symm {a b : Gv} {ord : Bool} {x c : Int × Int} (hk : (ndOf a x.1).kind = (ndOf b x.2).kind) (h : KidR a b ord x c) : KidR b a ord (x.2, x.1) (c.2, c.1) := by
  rcases h with ⟨h6, ho, i, j, i1, j1, e, h⟩ | ⟨hn, i, i1, i2, h⟩
  · exact Or.inl ⟨hk ▸ h6, ho, j, i, j1, i1, e.symm, by rcases h with rfl | rfl; exact Or.inl rfl; exact Or.inr rfl⟩
  · subst h
    exact Or.inr ⟨fun h9 => hn ⟨hk.trans h9.1, h9.2⟩, i, i2, i1, rfl⟩
theorem tell_symm {a b : Gv} (ra : rightN a = true) (rb : rightN b = true) {ord once : Bool} (h : TellP a b ord once) : TellP b a ord once := by
  obtain ⟨hg, ho⟩ := h
  have hr : ∀ y, RchR b a ord y → RchR a b ord (y.2, y.1) := fun y hy => hy (fun z => RchR a b ord (z.2, z.1)) (RchR.root a b ord) fun x c hx hc => hx.kid (kid_symm (x := x) (hg _ hx).1.symm hc)
  refine ⟨fun y hy => ?_, fun h x y hx hy e => ?_⟩
  · have h1 := hr y hy
    obtain ⟨i1, i2, i3, i4⟩ := rch_in ra rb h1
    exact good_symm (x := (y.2, y.1)) (dist_l ra i1 i2) (dist_l rb i3 i4) (hg _ h1)
  · have h1 := ho h _ _ (hr x hx) (hr y hy) e.symm
    obtain ⟨x1, x2⟩ := x
    obtain ⟨y1, y2⟩ := y
    injection h1 with e1 e2
    simp only at e1 e2
    rw [e1, e2]
/-! ### over a third one -/
theorem tell_trans {a b c : Gv} (ra : rightN a = true) (rb : rightN b = true) (rc : rightN c = true) {ord once : Bool} (h : TellP a b ord once) (k : TellP b c ord once) : TellP a c ord once := by
  have hr : ∀ y, RchR a c ord y → ∃ m, RchR a b ord (y.1, m) ∧ RchR b c ord (m, y.2) := fun y hy => hy (fun z => ∃ m, RchR a b ord (z.1, m) ∧ RchR b c ord (m, z.2)) ⟨b.root, RchR.root a b ord, RchR.root b c ord⟩ fun x d hx hd => by
    obtain ⟨m, h1, h2⟩ := hx
    obtain ⟨g1, g2, g3, g4⟩ := h.1 _ h1
    obtain ⟨f1, f2, f3, f4⟩ := k.1 _ h2
    simp only at g1 g2 g3 g4 f1 f2 f3 f4
    rcases hd with ⟨h6, ho, i, j, i1, j1, e, hd⟩ | ⟨hn, i, i1, i2, hd⟩
    · obtain ⟨l, l1, l2⟩ := g4 h6 ho i i1
      have e2 : keyAt b.ns ((ndOf b m).kids.getD (2 * l) 0) = keyAt c.ns ((ndOf c x.2).kids.getD (2 * j) 0) := l2.symm.trans e
      rcases hd with rfl | rfl
      · exact ⟨(ndOf b m).kids.getD (2 * l) 0, h1.kid (Or.inl ⟨h6, ho, i, l, i1, l1, l2, Or.inl rfl⟩), h2.kid (Or.inl ⟨g1 ▸ h6, ho, l, j, l1, j1, e2, Or.inl rfl⟩)⟩
      · exact ⟨(ndOf b m).kids.getD (2 * l + 1) 0, h1.kid (Or.inl ⟨h6, ho, i, l, i1, l1, l2, Or.inr rfl⟩), h2.kid (Or.inl ⟨g1 ▸ h6, ho, l, j, l1, j1, e2, Or.inr rfl⟩)⟩
    · subst hd
      have i3 : i < (ndOf b m).kids.length := g3 ▸ i1
      exact ⟨(ndOf b m).kids.getD i 0, h1.kid (Or.inr ⟨hn, i, i1, i3, rfl⟩), h2.kid (Or.inr ⟨fun h9 => hn ⟨g1.trans h9.1, h9.2⟩, i, i3, i2, rfl⟩)⟩
  refine ⟨fun y hy => ?_, fun ho x y hx hy e => ?_⟩
  · obtain ⟨m, h1, h2⟩ := hr y hy
    obtain ⟨g1, g2, g3, g4⟩ := h.1 _ h1
    obtain ⟨f1, f2, f3, f4⟩ := k.1 _ h2
    simp only at g1 g2 g3 g4 f1 f2 f3 f4
    refine ⟨g1.trans f1, g2.trans f2, g3.trans f3, fun h6 ho i hi => ?_⟩
    obtain ⟨l, l1, l2⟩ := g4 h6 ho i hi
    obtain ⟨j, j1, j2⟩ := f4 (g1 ▸ h6) ho l l1
    exact ⟨j, j1, l2.trans j2⟩
  · obtain ⟨m, h1, h2⟩ := hr x hx
    obtain ⟨n, k1, k2⟩ := hr y hy
    obtain ⟨x1, x2⟩ := x
    obtain ⟨y1, y2⟩ := y
    simp only at h1 h2 k1 k2 e
    rcases e with e | e
    · subst e
      have e1 := h.2 ho _ _ h1 k1 (Or.inl rfl)
      injection e1 with _ e1
      subst e1
      have e2 := k.2 ho _ _ h2 k2 (Or.inl rfl)
      injection e2 with _ e2
      rw [e2]
    · subst e
      have e1 := k.2 ho _ _ h2 k2 (Or.inr rfl)
      injection e1 with e1 _
      subst e1
      have e2 := h.2 ho _ _ h1 k1 (Or.inr rfl)
      injection e2 with e2 _
      rw [e2]
/-! ### one within the other -/
theorem like_equal {a b : Gv} {ord : Bool} (h : TellP a b ord true) : TellP a b ord false := ⟨h.1, fun e => by cases e⟩
theorem iso_like {a b : Gv} (ra : rightN a = true) (rb : rightN b = true) (h : TellP a b true true) : TellP a b false true := by
  have key : ∀ x, RchR a b true x → ∀ i, i < (ndOf a x.1).kids.length → keyAt a.ns ((ndOf a x.1).kids.getD i 0) = keyAt b.ns ((ndOf b x.2).kids.getD i 0) := fun x hx i hi => by
    have g3 := (h.1 x hx).2.2.1
    have h1 := h.1 _ (hx.kid (c := ((ndOf a x.1).kids.getD i 0, (ndOf b x.2).kids.getD i 0)) (Or.inr ⟨fun h9 => (by cases h9.2), i, hi, g3 ▸ hi, rfl⟩))
    unfold keyAt
    exact Prod.ext h1.1 h1.2.1
  have hr : ∀ y, RchR a b false y → RchR a b true y := fun y hy => hy (fun z => RchR a b true z) (RchR.root a b true) fun x c hx hc => by
    obtain ⟨i1, i2, i3, i4⟩ := rch_in ra rb hx
    have g := h.1 x hx
    rcases hc with ⟨h6, _, i, j, h1, h2, e, hc⟩ | ⟨hn, i, h1, h2, hc⟩
    · have e2 := (key x hx (2 * i) (by omega)).symm.trans e
      have hl := g.2.2.1
      obtain rfl := (dist_l rb i3 i4 (g.1 ▸ h6)).2 i j (by omega) h2 e2
      rcases hc with rfl | rfl
      · exact hx.kid (Or.inr ⟨fun h9 => (by cases h9.2), 2 * i, by omega, by omega, rfl⟩)
      · exact hx.kid (Or.inr ⟨fun h9 => (by cases h9.2), 2 * i + 1, h1, h2, rfl⟩)
    · exact hx.kid (Or.inr ⟨fun h9 => (by cases h9.2), i, h1, h2, hc⟩)
  refine ⟨fun y hy => ?_, fun _ x y hx hy e => h.2 rfl x y (hr x hx) (hr y hy) e⟩
  have h1 := hr y hy
  obtain ⟨g1, g2, g3, _⟩ := h.1 y h1
  exact ⟨g1, g2, g3, fun _ _ i hi => ⟨i, by omega, key y h1 (2 * i) (by omega)⟩⟩
/-! ### as many nodes -/
def NodeR (g : Gv) (k : Int) : Prop := ∀ S : Int → Prop, S g.root → (∀ x c, S x → c ∈ (ndOf g x).kids → S c) → S k
theorem NodeR.kid {g : Gv} {x c : Int} (h : NodeR g x) (hc : c ∈ (ndOf g x).kids) : NodeR g c := fun S h0 h1 => h1 x c (h S h0 h1) hc
theorem node_pair {a b : Gv} {ord : Bool} {k : Int} (ra : rightN a = true) (rb : rightN b = true) (h : AG a b ord) (hk : NodeR a k) : ∃ m, RchR a b ord (k, m) := by
  refine hk (fun k => ∃ m, RchR a b ord (k, m)) ⟨b.root, RchR.root a b ord⟩ fun x c hx hc => ?_
  obtain ⟨m, hm⟩ := hx
  obtain ⟨g1, g2, g3, g4⟩ := h _ hm
  obtain ⟨i1, i2, _, _⟩ := rch_in ra rb hm
  simp only at g1 g2 g3 g4 i1 i2
  obtain ⟨i, hi, e⟩ := List.mem_iff_getElem.1 hc
  have e : (ndOf a x).kids.getD i 0 = c := by rw [List.getD_eq_getElem?_getD, List.getElem?_eq_getElem hi]; exact e
  subst e
  by_cases h6 : (ndOf a x).kind = 6 ∧ ord = false
  · have hev := (dist_l ra i1 i2 h6.1).1
    obtain ⟨j, j1, j2⟩ := g4 h6.1 h6.2 (i / 2) (by omega)
    have q := hm.kid (c := ((ndOf a x).kids.getD (2 * (i / 2)) 0, (ndOf b m).kids.getD (2 * j) 0)) (Or.inl ⟨h6.1, h6.2, i / 2, j, by show _ < (ndOf a x).kids.length; omega, j1, j2, Or.inl rfl⟩)
    have r := hm.kid (c := ((ndOf a x).kids.getD (2 * (i / 2) + 1) 0, (ndOf b m).kids.getD (2 * j + 1) 0)) (Or.inl ⟨h6.1, h6.2, i / 2, j, by show _ < (ndOf a x).kids.length; omega, j1, j2, Or.inr rfl⟩)
    rcases Nat.mod_two_eq_zero_or_one i with e | e
    · have : 2 * (i / 2) = i := by omega
      rw [this] at q
      exact ⟨_, q⟩
    · have : 2 * (i / 2) + 1 = i := by omega
      rw [this] at r
      exact ⟨_, r⟩
  · exact ⟨_, hm.kid (Or.inr ⟨h6, i, hi, by show i < (ndOf b m).kids.length; omega, rfl⟩)⟩
theorem pair_node {a b : Gv} {ord : Bool} {x : Int × Int} (h : RchR a b ord x) : NodeR a x.1 ∧ NodeR b x.2 := h (fun x => NodeR a x.1 ∧ NodeR b x.2) ⟨fun S h0 _ => h0, fun S h0 _ => h0⟩ fun x c hx hc => ⟨hx.1.kid (kid_mem hc).1, hx.2.kid (kid_mem hc).2⟩
theorem as_many {a b : Gv} {ord : Bool} (ra : rightN a = true) (rb : rightN b = true) (h : TellP a b ord true) {l m : List Int} (hl : l.Nodup) (hm : m.Nodup) (el : ∀ k, k ∈ l ↔ NodeR a k) (em : ∀ k, k ∈ m ↔ NodeR b k) : l.length = m.length := by
  have le : ∀ {a b : Gv} {l m : List Int}, rightN a = true → rightN b = true → TellP a b ord true → l.Nodup → (∀ k, k ∈ l ↔ NodeR a k) → (∀ k, k ∈ m ↔ NodeR b k) → l.length ≤ m.length := fun {a b l m} ra rb h hl el em => by
    refine inj_len (R := fun k n => RchR a b ord (k, n)) (fun x x' y h1 h2 => ?_) l m hl fun k hk => ?_
    · have e := h.2 rfl _ _ h1 h2 (Or.inr rfl)
      injection e
    · obtain ⟨n, hn⟩ := node_pair ra rb h.1 ((el k).1 hk)
      exact ⟨n, (em n).2 (pair_node hn).2, hn⟩
  exact Nat.le_antisymm (le ra rb h hl el em) (le rb ra (tell_symm ra rb h) hm em el)
end Go.Proofs.YtpgncjfmaeiaaaaDoor.Is
