/- Plain laws: what a queue has behind Put and Drop. Conditions: none. -/
import Derived.Test.YtiaonfmdjipekaaLsHeap
import Derived.Test.YtiaonfmdjipekaaLsSort
set_option linter.unusedVariables false
namespace Go.Proofs.Ytiaonfmdjipekaa.Ls
theorem fixL_perm {h : List Ent} {i n : Nat} (hi : i < n) (hn : n ≤ h.length) : (fixL h i n).Perm h := by
  unfold fixL
  split
  · exact downL_perm _ _ _ _ hn
  · exact (upL_perm _ _ _ (by rw [downL_len]; omega)).trans (downL_perm _ _ _ _ hn)
theorem fixL_far {h : List Ent} {i n k : Nat} (hi : i < n) (hn : n ≤ h.length) (hk : n ≤ k) : (fixL h i n).getD k ent0 = h.getD k ent0 := by
  unfold fixL
  split
  · exact downL_far _ _ _ _ _ hn hk
  · rw [upL_far _ _ _ _ (by rw [downL_len]; omega) (by omega), downL_far _ _ _ _ _ hn hk]
theorem remL_perm {h : List Ent} {i n : Nat} (hn : h.length = n + 1) (hi : i < n + 1) : (remL h i n).Perm h := by
  unfold remL
  split
  · exact List.Perm.refl _
  · exact (fixL_perm (by omega) (by rw [swapL_len]; omega)).trans (swapL_perm h (by omega) (by omega))
theorem remL_last {h : List Ent} {i n : Nat} (hn : h.length = n + 1) (hi : i < n + 1) : (remL h i n).getD n ent0 = h.getD i ent0 := by
  unfold remL
  split
  · rename_i e; rw [e]
  · rw [fixL_far (by omega) (by rw [swapL_len]; omega) (Nat.le_refl _), swapL_get h (by omega) (by omega), if_pos rfl]
theorem take_last (l : List Ent) (n : Nat) (hn : l.length = n + 1) : l.Perm (l.getD n ent0 :: l.take n) := by
  have e : l = l.take n ++ [l.getD n ent0] := by
    conv => lhs; rw [← List.take_append_drop n l]
    congr 1
    rw [List.drop_eq_getElem_cons (by omega), List.drop_of_length_le (by omega), List.getD_eq_getElem?_getD, List.getElem?_eq_getElem (by omega)]
    rfl
  conv => lhs; rw [e]
  exact List.perm_append_singleton _ _
/-- what the map says -/
def Known (h : List Ent) (f : Int → Int) : Prop := (∀ e ∈ h, f e.id = e.blk) ∧ ∀ x, x ∉ h.map Ent.id → f x = -1
structure St (h : List Ent) (L : List Pr) : Prop where
  heap : IsHeap h h.length
  perm : (h.map pr).Perm L
  sorted : L.Pairwise ltP
  nodup : (h.map Ent.id).Nodup
  wf : ∀ e ∈ h, (-9223372036854775808 ≤ e.til ∧ e.til < 9223372036854775808) ∧ 1 ≤ e.id ∧ e.id < 9223372036854775808
theorem ids_pr (h : List Ent) : ids (h.map pr) = h.map Ent.id := by simp [ids, pr, Function.comp_def]
theorem St.mem {h : List Ent} {L : List Pr} (s : St h L) (x : Int) : x ∈ ids L ↔ x ∈ h.map Ent.id := by
  rw [← ids_pr]
  exact (s.perm.map Prod.fst).mem_iff.symm
theorem St.idsNodup {h : List Ent} {L : List Pr} (s : St h L) : (ids L).Nodup := (s.perm.map Prod.fst).nodup_iff.1 (by rw [show (h.map pr).map Prod.fst = h.map Ent.id from ids_pr h]; exact s.nodup)
theorem St.len {h : List Ent} {L : List Pr} (s : St h L) : L.length = h.length := by have := s.perm.length_eq; simpa using this.symm
theorem getD_mem' {h : List Ent} {i : Nat} (hi : i < h.length) : h.getD i ent0 ∈ h := by
  rw [List.getD_eq_getElem?_getD, List.getElem?_eq_getElem hi]
  exact List.getElem_mem hi
theorem St.at {h : List Ent} {L : List Pr} (s : St h L) {x : Int} (hx : x ∈ ids L) : ∃ i, i < h.length ∧ (h.getD i ent0).id = x := by
  obtain ⟨e, he, hid⟩ := List.mem_map.1 ((s.mem x).1 hx)
  obtain ⟨i, hi, rfl⟩ := List.getElem_of_mem he
  exact ⟨i, hi, by rw [List.getD_eq_getElem?_getD, List.getElem?_eq_getElem hi]; exact hid⟩
theorem remP_set (l : List Pr) (i : Nat) (x t : Int) (hi : (l.getD i (x, t)).1 = x) : remP x (l.set i (x, t)) = remP x l := by
  induction l generalizing i with
  | nil => rfl
  | cons a l ih =>
    cases i with
    | zero =>
      have ha : a.1 = x := hi
      simp [remP, ha]
    | succ i =>
      have := ih i (by simpa using hi)
      unfold remP at this ⊢
      rw [List.set_cons_succ, List.filter_cons, List.filter_cons, this]
/-- one whose time is turned -/
theorem St.turn {h : List Ent} {L : List Pr} (s : St h L) {i : Nat} {x t : Int} (hi : i < h.length) (hx : (h.getD i ent0).id = x) (ht : -9223372036854775808 ≤ t ∧ t < 9223372036854775808) :
    St (fixL (h.set i ⟨(h.getD i ent0).blk, x, t⟩) i h.length) (insP (x, t) (remP x L)) ∧ (∀ f, Known h f → Known (fixL (h.set i ⟨(h.getD i ent0).blk, x, t⟩) i h.length) f) := by
  have hl : (h.set i ⟨(h.getD i ent0).blk, x, t⟩).length = h.length := List.length_set
  have hp := fixL_perm (h := h.set i ⟨(h.getD i ent0).blk, x, t⟩) hi (Nat.le_of_eq hl.symm)
  have hge : h.getD i ent0 = h[i] := by rw [List.getD_eq_getElem?_getD, List.getElem?_eq_getElem hi]; rfl
  have e1 : (h.set i ⟨(h.getD i ent0).blk, x, t⟩).map Ent.id = h.map Ent.id := by
    rw [List.map_set]
    conv => rhs; rw [← List.set_getElem_self («as» := h.map Ent.id) (i := i) (by simpa using hi)]
    congr 1
    simp
    rw [← hge]; exact hx.symm
  have e2 : (h.set i ⟨(h.getD i ent0).blk, x, t⟩).map pr = (h.map pr).set i (x, t) := by rw [List.map_set]; rfl
  have hm : ∀ e ∈ h.set i ⟨(h.getD i ent0).blk, x, t⟩, (e = ⟨(h.getD i ent0).blk, x, t⟩) ∨ e ∈ h := fun e he => by
    rcases List.mem_or_eq_of_mem_set he with h1 | h1
    · exact Or.inr h1
    · exact Or.inl h1
  have hin : h.getD i ent0 ∈ h := getD_mem' hi
  have hpr : (h.map pr).Perm ((x, (h.getD i ent0).til) :: remP x (h.map pr)) := remP_perm (by rw [ids_pr]; exact s.nodup) (List.mem_map.2 ⟨_, hin, by unfold pr; rw [hx]⟩)
  have hnx : x ∉ ids (remP x L) := remP_not L x
  have hip : (fixL (h.set i ⟨(h.getD i ent0).blk, x, t⟩) i h.length).map Ent.id |>.Perm (h.map Ent.id) := (hp.map Ent.id).trans (by rw [e1])
  refine ⟨⟨?_, ?_, insP_sorted _ _ (remP_sorted s.sorted x) hnx, hip.nodup_iff.2 s.nodup, fun e he => ?_⟩, fun f kf => ⟨fun e he => ?_, fun y hy => ?_⟩⟩
  · rw [fixL_len, hl]
    exact fix_heap rfl hi (Nat.le_of_eq hl.symm) (set_downPre (Nat.le_refl _) hi s.heap _)
  · refine (hp.map pr).trans ?_
    rw [e2]
    have hmem : (x, t) ∈ (h.map pr).set i (x, t) := List.mem_set (by simpa using hi) _
    have hnd : (ids ((h.map pr).set i (x, t))).Nodup := by rw [← e2, ids_pr, e1]; exact s.nodup
    refine (remP_perm hnd hmem).trans ?_
    rw [remP_set _ _ _ _ (by
      rw [List.getD_eq_getElem?_getD, List.getElem?_eq_getElem (by simpa using hi)]
      simp only [List.getElem_map, Option.getD_some]
      rw [← hge]; exact hx)]
    exact ((perm_remP s.perm x).cons _).trans (insP_perm _ _).symm
  · rcases hm e (hp.mem_iff.1 he) with rfl | h1
    · exact ⟨ht, hx ▸ (s.wf _ hin).2⟩
    · exact s.wf e h1
  · rcases hm e (hp.mem_iff.1 he) with rfl | h1
    · have := kf.1 _ hin
      rw [hx] at this
      exact this
    · exact kf.1 e h1
  · exact kf.2 y fun h1 => hy (hip.mem_iff.2 h1)
/-- a new one -/
theorem St.add {h : List Ent} {L : List Pr} (s : St h L) {x t : Int} {b : Nat} (hx : x ∉ ids L) (h1 : 1 ≤ x ∧ x < 9223372036854775808) (ht : -9223372036854775808 ≤ t ∧ t < 9223372036854775808) :
    St (upL (h.length + 1) (h ++ [⟨b, x, t⟩]) h.length) (insP (x, t) L) ∧ (∀ f g, Known h f → (∀ y, y ≠ x → g y = f y) → g x = (b : Int) → Known (upL (h.length + 1) (h ++ [⟨b, x, t⟩]) h.length) g) := by
  have hl : (h ++ [(⟨b, x, t⟩ : Ent)]).length = h.length + 1 := by simp
  have hp := upL_perm (h.length + 1) (h ++ [⟨b, x, t⟩]) h.length (by omega)
  have hq : (h ++ [(⟨b, x, t⟩ : Ent)]).Perm (⟨b, x, t⟩ :: h) := List.perm_append_singleton _ _
  have hxh : x ∉ h.map Ent.id := fun e => hx ((s.mem x).2 e)
  have hpq := hp.trans hq
  refine ⟨⟨?_, ?_, insP_sorted _ _ s.sorted hx, ?_, fun e he => ?_⟩, fun f g kf hg hgx => ⟨fun e he => ?_, fun y hy => ?_⟩⟩
  · rw [upL_len, hl]
    exact upL_heap _ _ _ _ (by omega) (by omega) (by omega) (push_upPre rfl s.heap _)
  · exact ((hpq.map pr).trans (s.perm.cons (x, t))).trans (insP_perm _ _).symm
  · rw [(hpq.map Ent.id).nodup_iff]
    exact List.nodup_cons.2 ⟨hxh, s.nodup⟩
  · rcases List.mem_cons.1 (hpq.mem_iff.1 he) with rfl | h2
    · exact ⟨ht, h1⟩
    · exact s.wf e h2
  · rcases List.mem_cons.1 (hpq.mem_iff.1 he) with rfl | h2
    · exact hgx
    · rw [hg _ fun e2 => hxh (e2 ▸ List.mem_map.2 ⟨e, h2, rfl⟩)]
      exact kf.1 e h2
  · have hy2 : y ≠ x ∧ y ∉ h.map Ent.id := by
      have : y ∉ (⟨b, x, t⟩ :: h).map Ent.id := fun e => hy ((hpq.map Ent.id).mem_iff.2 e)
      rw [List.map_cons] at this
      exact ⟨fun e => this (e ▸ List.mem_cons_self), fun e => this (List.mem_cons_of_mem _ e)⟩
    rw [hg y hy2.1]
    exact kf.2 y hy2.2
/-- one less -/
theorem St.drop {h : List Ent} {L : List Pr} (s : St h L) {i n : Nat} {x : Int} (hn : h.length = n + 1) (hi : i < n + 1) (hx : (h.getD i ent0).id = x) :
    St ((remL h i n).take n) (remP x L) ∧ (∀ f g, Known h f → (∀ y, y ≠ x → g y = f y) → g x = -1 → Known ((remL h i n).take n) g) := by
  have hin : h.getD i ent0 ∈ h := getD_mem' (by omega)
  have hp : h.Perm (h.getD i ent0 :: (remL h i n).take n) := by
    have h1 := take_last (remL h i n) n (by rw [remL_len]; exact hn)
    rw [remL_last hn hi] at h1
    exact (remL_perm hn hi).symm.trans h1
  have hlen : ((remL h i n).take n).length = n := by rw [List.length_take, remL_len]; omega
  have hnd := (hp.map Ent.id).nodup_iff.1 s.nodup
  rw [List.map_cons, hx, List.nodup_cons] at hnd
  have hmem : ∀ e, e ∈ (remL h i n).take n → e ∈ h := fun e he => hp.mem_iff.2 (List.mem_cons_of_mem _ he)
  refine ⟨⟨?_, ?_, remP_sorted s.sorted x, hnd.2, fun e he => s.wf e (hmem e he)⟩, fun f g kf hg hgx => ⟨fun e he => ?_, fun y hy => ?_⟩⟩
  · rw [hlen]
    refine take_heap ?_
    unfold remL
    split
    · exact fun k k0 kn => s.heap k k0 (by omega)
    · exact fix_heap rfl (by omega) (by rw [swapL_len]; omega) (swap_downPre hn (by omega) (hn ▸ s.heap))
  · have hL : L.Perm ((x, (h.getD i ent0).til) :: remP x L) := remP_perm s.idsNodup (s.perm.mem_iff.1 (List.mem_map.2 ⟨_, hin, by unfold pr; rw [hx]⟩))
    have h2 := (hp.map pr).symm.trans (s.perm.trans hL)
    rw [List.map_cons, show pr (h.getD i ent0) = (x, (h.getD i ent0).til) by unfold pr; rw [hx]] at h2
    exact (List.perm_cons _).1 h2
  · rw [hg _ fun e2 => hnd.1 (e2 ▸ List.mem_map.2 ⟨e, he, rfl⟩)]
    exact kf.1 e (hmem e he)
  · by_cases hyx : y = x
    · rw [hyx]; exact hgx
    · rw [hg y hyx]
      refine kf.2 y fun e => ?_
      rcases List.mem_cons.1 ((List.map_cons (f := Ent.id) .. ▸ (hp.map Ent.id).mem_iff.1 e : y ∈ (h.getD i ent0).id :: ((remL h i n).take n).map Ent.id)) with h3 | h3
      · exact hyx (h3.trans hx)
      · exact hy h3
theorem St.nil : St [] [] := ⟨fun k _ hk => absurd hk (Nat.not_lt_zero _), List.Perm.refl _, List.Pairwise.nil, List.Pairwise.nil, fun e he => nomatch he⟩
end Go.Proofs.Ytiaonfmdjipekaa.Ls
