/- Plain laws: the entries of a queue in their order: one put in, one taken out. Conditions: none; no program. -/
import Derived.Test.YtiaonfmdjipekaaLsHLaw
set_option linter.unusedVariables false
namespace Go.Proofs.Ytiaonfmdjipekaa.Ls
/-- a number and until when it holds -/
abbrev Pr := Int × Int
def pr (e : Ent) : Pr := (e.id, e.til)
def ltP (a b : Pr) : Prop := a.2 < b.2 ∨ a.2 = b.2 ∧ a.1 < b.1
instance (a b : Pr) : Decidable (ltP a b) := by unfold ltP; exact inferInstance
theorem ltP_less (a b : Ent) : lessE a b = true ↔ ltP (pr a) (pr b) := by
  unfold lessE ltP pr
  simp
theorem ltP_trans {a b c : Pr} (h : ltP a b) (k : ltP b c) : ltP a c := by
  unfold ltP at *
  omega
theorem ltP_total {a b : Pr} (h : a.1 ≠ b.1) (k : ¬ ltP a b) : ltP b a := by
  unfold ltP at *
  omega
def insP (p : Pr) : List Pr → List Pr
  | [] => [p]
  | a :: l => if ltP a p then a :: insP p l else p :: a :: l
def remP (x : Int) (l : List Pr) : List Pr := l.filter fun a => a.1 != x
def ids (l : List Pr) : List Int := l.map Prod.fst
theorem insP_perm (p : Pr) : ∀ l : List Pr, (insP p l).Perm (p :: l)
  | [] => List.Perm.refl _
  | a :: l => by
    unfold insP
    split
    · exact ((insP_perm p l).cons a).trans (List.Perm.swap p a l)
    · exact List.Perm.refl _
theorem insP_sorted (p : Pr) : ∀ l : List Pr, l.Pairwise ltP → p.1 ∉ ids l → (insP p l).Pairwise ltP
  | [], _, _ => List.pairwise_singleton _ _
  | a :: l, h, hn => by
    have hn2 : p.1 ≠ a.1 ∧ p.1 ∉ ids l := by
      unfold ids at hn ⊢
      simp at hn ⊢
      exact ⟨hn.1, fun x hx => hn.2 x hx⟩
    have hp := List.pairwise_cons.1 h
    unfold insP
    split
    · rename_i ha
      refine List.pairwise_cons.2 ⟨fun b hb => ?_, insP_sorted p l hp.2 hn2.2⟩
      rcases List.mem_cons.1 ((insP_perm p l).mem_iff.1 hb) with rfl | hb
      · exact ha
      · exact hp.1 b hb
    · rename_i ha
      have hpa : ltP p a := ltP_total (fun e => hn2.1 e.symm) ha
      refine List.pairwise_cons.2 ⟨fun b hb => ?_, h⟩
      rcases List.mem_cons.1 hb with rfl | hb
      · exact hpa
      · exact ltP_trans hpa (hp.1 b hb)
theorem remP_sorted {l : List Pr} (h : l.Pairwise ltP) (x : Int) : (remP x l).Pairwise ltP := h.filter _
theorem remP_none {l : List Pr} {x : Int} (h : x ∉ ids l) : remP x l = l := by
  unfold remP
  rw [List.filter_eq_self]
  intro a ha
  simp
  intro e
  exact h (List.mem_map.2 ⟨a, ha, e⟩)
theorem remP_not (l : List Pr) (x : Int) : x ∉ ids (remP x l) := by
  intro h
  obtain ⟨a, ha, e⟩ := List.mem_map.1 h
  have := (List.mem_filter.1 ha).2
  simp [e] at this
theorem remP_perm {l : List Pr} {x t : Int} (hn : (ids l).Nodup) (h : (x, t) ∈ l) : l.Perm ((x, t) :: remP x l) := by
  induction l with
  | nil => cases h
  | cons a l ih =>
    have hn2 : a.1 ∉ ids l ∧ (ids l).Nodup := List.nodup_cons.1 hn
    rcases List.mem_cons.1 h with rfl | h
    · have : remP x ((x, t) :: l) = remP x l := by simp [remP]
      rw [this, remP_none hn2.1]
    · have hax : a.1 ≠ x := fun e => hn2.1 (List.mem_map.2 ⟨_, h, e.symm⟩)
      have : remP x (a :: l) = a :: remP x l := by simp [remP, hax]
      rw [this]
      exact ((ih hn2.2 h).cons a).trans (List.Perm.swap _ _ _)
theorem perm_remP {l m : List Pr} (h : l.Perm m) (x : Int) : (remP x l).Perm (remP x m) := h.filter _
theorem sorted_unique {l m : List Pr} (h : l.Perm m) (hl : l.Pairwise ltP) (hm : m.Pairwise ltP) : l = m :=
  List.Perm.eq_of_pairwise (fun a b _ _ h1 h2 => by unfold ltP at h1 h2; omega) hl hm h
/-- the least of a heap is the first of the row -/
theorem top_head {h : List Ent} {l : List Pr} (hh : IsHeap h h.length) (hp : (h.map pr).Perm l) (hl : l.Pairwise ltP) (hn : (ids l).Nodup) (h0 : 0 < h.length) : ∃ r, l = pr (h.getD 0 ent0) :: r := by
  cases l with
  | nil =>
    have := hp.length_eq
    simp at this
    rw [this] at h0
    exact absurd h0 (by simp)
  | cons a r =>
    refine ⟨r, ?_⟩
    have ha : a ∈ h.map pr := hp.mem_iff.2 (by simp)
    obtain ⟨e, he, rfl⟩ := List.mem_map.1 ha
    obtain ⟨i, hi, rfl⟩ : ∃ i, i < h.length ∧ h.getD i ent0 = e := by
      obtain ⟨i, hi, rfl⟩ := List.getElem_of_mem he
      exact ⟨i, hi, by simp [List.getD_eq_getElem?_getD, hi]⟩
    have top := heap_top hh i i (Nat.le_refl _) hi
    have h0m : pr (h.getD 0 ent0) ∈ pr (h.getD i ent0) :: r := hp.mem_iff.1 (List.mem_map.2 ⟨_, by
      rw [List.getD_eq_getElem?_getD, List.getElem?_eq_getElem h0]; exact List.getElem_mem h0, rfl⟩)
    rcases List.mem_cons.1 h0m with e | hr
    · rw [e]
    · have := (List.pairwise_cons.1 hl).1 _ hr
      rw [← ltP_less, top] at this
      exact absurd this (by simp)
def tilOf (l : List Pr) (x : Int) : Option Int := (l.find? fun a => a.1 == x).map Prod.snd
theorem tilOf_none {l : List Pr} {x : Int} : tilOf l x = none ↔ x ∉ ids l := by
  unfold tilOf ids
  simp
  exact ⟨fun h y hy => h x y hy rfl, fun h a b hab e => h b (e ▸ hab)⟩
theorem tilOf_some {l : List Pr} {x t : Int} (hn : (ids l).Nodup) (h : (x, t) ∈ l) : tilOf l x = some t := by
  induction l with
  | nil => cases h
  | cons a l ih =>
    have hn2 : a.1 ∉ ids l ∧ (ids l).Nodup := List.nodup_cons.1 hn
    unfold tilOf
    rcases List.mem_cons.1 h with rfl | h
    · simp
    · have hax : ¬ a.1 = x := fun e => hn2.1 (List.mem_map.2 ⟨_, h, e.symm⟩)
      have := ih hn2.2 h
      unfold tilOf at this
      simp [hax, this]
def putR (l : List Pr) (x t : Int) : List Pr := if x < 1 then l else if x ∈ ids l then insP (x, t) (remP x l) else if l.length = 1024 then l else insP (x, t) l
def putC (l : List Pr) (x : Int) : Int := if x < 1 then 1 else if x ∈ ids l then 0 else if l.length = 1024 then 5 else 0
def dropC (l : List Pr) (x : Int) : Int := if x ∈ ids l then 0 else 6
def dueN (l : List Pr) (now : Int) : List Pr := l.dropWhile fun a => decide (a.2 ≤ now)
def dueL (l : List Pr) (now : Int) : List Int := ids (l.takeWhile fun a => decide (a.2 ≤ now))
end Go.Proofs.Ytiaonfmdjipekaa.Ls
