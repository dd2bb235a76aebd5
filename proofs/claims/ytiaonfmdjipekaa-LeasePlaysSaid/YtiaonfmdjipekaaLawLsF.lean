/- Law: LeaseDue, states. Conditions: none. -/
import Derived.Test.YtiaonfmdjipekaaLawLsE
set_option linter.unusedVariables false
namespace Go.Proofs.Ytiaonfmdjipekaa.Ls
open Go.RowKit Go.Maps
noncomputable abbrev RI : Value → Option (DN × List MemPlace) := plainElem Try.prog 3
theorem zeroI (w : World) : (zeroValue 3).run Try.prog w = .ok (.int .i64 0) w := by kernel_rfl
theorem wfI {x : Int} (h : wf64 x) : (Lit.int .i64 x).wf = true := WalkArith.wf_i64 (by have := h.1; have := h.2; omega)
def zI : DN := .lit (.int .i64 0)
/-- what the law's own map has of the first j -/
def MapAt (w : World) (Dm : Nat) (L : List Pr) (j : Nat) : Prop := ∃ dm : DN, w.ownsMap Try.prog 3 RI Dm j dm ∧ ∀ i, i < j → Maps.has dm (.int .i64 (L.getD i (0, 0)).1) = true ∧ dm.atKey (.int .i64 (L.getD i (0, 0)).1) zI = .lit (.int .i64 (L.getD i (0, 0)).2)
theorem MapAt.block {w w' : World} {Dm : Nat} {L : List Pr} {j : Nat} (h : MapAt w Dm L j) (e : w'.heap[Dm]? = w.heap[Dm]?) : MapAt w' Dm L j := by
  obtain ⟨dm, ⟨es, ck, hb, r⟩, h2⟩ := h
  exact ⟨dm, ⟨es, ck, e.trans hb, r⟩, h2⟩
theorem MapAt.lt {w : World} {Dm : Nat} {L : List Pr} {j : Nat} (h : MapAt w Dm L j) : Dm < w.heap.size := by
  obtain ⟨dm, ⟨es, ck, hb, r⟩, h2⟩ := h
  exact blt hb
theorem MapAt.look {w : World} {Dm : Nat} {L : List Pr} {j i : Nat} (h : MapAt w Dm L j) (hi : i < j) {x u : Int} (hx : (L.getD i (0, 0)).1 = x) (hu : (L.getD i (0, 0)).2 = u) (hw : wf64 x) :
    (Instr.lookup 53 (.map (some Dm)) (.int .i64 x) false).run Try.prog w = .ok (.int .i64 u) w := by
  obtain ⟨dm, ho, h2⟩ := h
  obtain ⟨c, hrun, hat, _⟩ := ho.lookup_int keyI Try.underlying53 Try.underlying3 (zeroI w) (keyOfI hw)
  have h3 := (h2 i hi).2
  rw [hx, hu] at h3
  unfold zI at h3
  rw [h3] at hat
  simp at hat
  rw [hrun, hat]
theorem MapAt.look_ok {w : World} {Dm : Nat} {L : List Pr} {j i : Nat} (h : MapAt w Dm L j) (hi : i < j) {x u : Int} (hx : (L.getD i (0, 0)).1 = x) (hu : (L.getD i (0, 0)).2 = u) (hw : wf64 x) :
    (Instr.lookup 53 (.map (some Dm)) (.int .i64 x) true).run Try.prog w = .ok (.tuple #[.int .i64 u, .bool true]) w := by
  obtain ⟨dm, ho, h2⟩ := h
  obtain ⟨v, ps, hrun, hv⟩ := ho.look_ok keyI Try.underlying53 (zeroI w) (zd := zI) (zp := []) (plainElem_int Try.underlying3 (by decide)) (keyOfI hw)
  obtain ⟨c, rfl, hc, _⟩ := plainElem_int_inv Try.underlying3 hv
  have h3 := h2 i hi
  rw [hx, hu] at h3
  rw [h3.2] at hc
  rw [h3.1] at hrun
  simp at hc
  rw [hrun, hc.1]
theorem MapAt.put {w w' : World} {Dm : Nat} {L : List Pr} {j : Nat} (hj : j < L.length) (hn : (ids L).Nodup) {dm : DN} (ho : w.ownsMap Try.prog 3 RI Dm j dm) (h : ∀ i, i < j → Maps.has dm (.int .i64 (L.getD i (0, 0)).1) = true ∧ dm.atKey (.int .i64 (L.getD i (0, 0)).1) zI = .lit (.int .i64 (L.getD i (0, 0)).2)) {x u : Int} (hx : (L.getD j (0, 0)).1 = x) (hu : (L.getD j (0, 0)).2 = u) (hw : wf64 x)
    (h2 : w'.ownsMap Try.prog 3 RI Dm (j + 1) (dm.put (.int .i64 x) (.lit (.int .i64 u)))) : MapAt w' Dm L (j + 1) := by
  refine ⟨_, h2, fun i hi => ?_⟩
  by_cases e : i = j
  · subst e
    rw [hx, hu]
    exact ⟨Maps.has_put_same ho.isMap (keyI.key (keyOfI hw)) _, Maps.atKey_put_same ho.isMap (keyI.key (keyOfI hw)) _ _⟩
  · have hne : (L.getD i (0, 0)).1 ≠ x := fun e2 => by
      rw [← hx] at e2
      have h3 := (List.getElem_inj (h₀ := by simpa [ids] using (show i < L.length by omega)) (h₁ := by simpa [ids] using hj) hn (xs := ids L)).1 (by
        have e4 := ids_at (L := L) (j := i) (by omega)
        have e5 := ids_at hj
        rw [List.getD_eq_getElem?_getD, List.getElem?_eq_getElem (by simpa [ids] using (show i < L.length by omega))] at e4
        rw [List.getD_eq_getElem?_getD, List.getElem?_eq_getElem (by simpa [ids] using hj)] at e5
        simp only [Option.getD_some] at e4 e5
        rw [e4, e5]; exact e2)
      exact e h3
    have hk : (Lit.int .i64 (L.getD i (0, 0)).1) ≠ .int .i64 x := fun e2 => hne (by simpa using e2)
    have h3 := h i (by omega)
    rw [Maps.has_put_other hk, Maps.atKey_put_other hk]
    exact h3
/-- what the second loop holds -/
structure MapSt (w : World) (q : Nat) (L : List Pr) (n Dm : Nat) (A : Option Addr) (j : Nat) (wr : World) : Prop where
  que : Que wr (fun k => k < w.heap.size ∨ k = Dm) q L n
  row : IntsAt wr A (ids L)
  apart : ∀ g, A = some ⟨g, 0, none⟩ → g ≠ Dm
  map : MapAt wr Dm L j
  bel : Below w.heap.size w wr
  new : w.heap.size ≤ Dm
theorem MapSt.until {w : World} {q : Nat} {L : List Pr} {n Dm : Nat} {A : Option Addr} {j : Nat} {wr : World} (S : MapSt w q L n Dm A j wr) {i : Nat} (hj : i < L.length) {x u : Int} (hx : (L.getD i (0, 0)).1 = x) (hu : (L.getD i (0, 0)).2 = u) :
    wf64 x ∧ wf64 u ∧ Calls Try.prog 12 #[.pointer (some ⟨q, 0, none⟩), .int .i64 x] wr fun e w' => e = .returned (.tuple #[.int .i64 u, .bool true]) ∧ wr = w' := by
  have st := S.que.state
  have hmem : L.getD i (0, 0) ∈ L := by rw [List.getD_eq_getElem?_getD, List.getElem?_eq_getElem hj]; exact List.getElem_mem hj
  have wf := st.2.2.2 _ hmem
  have ht := tilOf_some (x := x) (t := u) st.2.1 (by rw [← hx, ← hu]; exact hmem)
  rw [hx, hu] at wf
  have h := until_any wr _ q L n S.que x ⟨by omega, wf.2.2⟩
  have e1 : tilV L x = u := by unfold tilV; rw [ht]; rfl
  have e2 : hasV L x = true := by unfold hasV; rw [ht]; rfl
  rw [e1, e2] at h
  exact ⟨⟨by omega, wf.2.2⟩, wf.1, h⟩
/-- a pair is written -/
theorem MapSt.step {w : World} {q : Nat} {L : List Pr} {n Dm : Nat} {A : Option Addr} {j : Nat} {wr w' : World} (S : MapSt w q L n Dm A j wr) (hg : wr.grownBy w' (some Dm)) (hm : MapAt w' Dm L (j + 1)) : MapSt w q L n Dm A (j + 1) w' := by
  have hT : Turn (fun k => k < w.heap.size ∨ k = Dm) wr w' := (Turn.refl _ _).grown hg fun k e => Or.inr (by simpa using e.symm)
  refine ⟨S.que.other hT (fun k hk => Or.inl hk) (fun k hk => Nat.lt_of_lt_of_le (S.que.old k hk) hT.size), ⟨fun i hi => ?_⟩, S.apart, hm, S.bel.grown hg S.bel.size (fun k e => by have h9 : Dm = k := (by simpa using e); rw [← h9]; exact S.new), S.new⟩
  obtain ⟨b, h1, h2, h3⟩ := S.row.get i hi
  refine ⟨b, h1, Nat.lt_of_lt_of_le h2 hT.size, ?_⟩
  rw [← h3]
  unfold World.cell?
  rw [hg.block b h2 fun e => S.apart b h1 (by simpa using e)]
theorem MapSt.below {w : World} {q : Nat} {L : List Pr} {n Dm : Nat} {A : Option Addr} {j : Nat} {wr w' : World} (S : MapSt w q L n Dm A j wr) (hb : Below wr.heap.size wr w') : MapSt w q L n Dm A j w' :=
  ⟨S.que.below hb, S.row.below hb, S.apart, S.map.block (hb.block _ S.map.lt), S.bel.trans (hb.mono S.bel.size), S.new⟩
/-- the map is made, and the list is laid -/
theorem RunSt.mapped {w : World} {q : Nat} {acts : List AV} {n m : Nat} {wr : World} {L : List Pr} (S : RunSt w q acts n wr) (hL : runL acts n = L) (hm : L.length = m) :
    Calls Try.prog 18 #[.pointer (some ⟨q, 0, none⟩)] (wr.alloc (.map #[] 0)) fun e w' => ∃ A c, e = .returned (.slice A m c) ∧ Hid (MapSt w q L n wr.heap.size A 0 w') := by
  have hb := (Below.refl wr.heap.size wr).alloc (Nat.le_refl _) (.map #[] 0)
  have Q := S.que
  rw [hL] at Q
  have Q1 : Que (wr.alloc (.map #[] 0)) (fun k => k < w.heap.size ∨ k = wr.heap.size) q L n := Q.other (Turn.of_below hb) (fun k hk => hk.imp id fun e => by omega) (fun k hk => by
    rw [World.size_alloc]
    have := S.bel.size
    rcases hk with h | h <;> omega)
  refine (all_any _ _ q L n Q1).mono ?_
  rintro e w' ⟨v, rfl, h1, h2, h3⟩
  obtain ⟨A, c, e1, i1, e2⟩ := h1.out.open_
  have hl : (ids L).length = m := by rw [← hm]; simp [ids]
  subst e1
  rw [hl] at e2 ⊢
  rw [World.size_alloc] at h2 h3
  have h4 := h3.out
  refine ⟨A, c, rfl, Q1.below (by rw [World.size_alloc]; exact h4), i1, fun g hg e => ?_, ?_, (S.bel.trans (hb.mono S.bel.size)).trans (h4.mono (Nat.le_succ_of_le S.bel.size)), S.bel.size⟩
  · rw [hl] at h2
    have := h2.out g ((e2 g).2 hg)
    omega
  · have ho := World.ownsMap_made wr Try.prog 3 RI
    exact MapAt.block ⟨_, ho, fun i hi => absurd hi (Nat.not_lt_zero _)⟩ (h4.block _ (Nat.lt_succ_self _))
theorem due_len (L : List Pr) (now : Int) : (dueL L now).length + (dueN L now).length = L.length := by
  unfold dueL dueN ids
  rw [List.length_map, ← List.length_append, List.takeWhile_append_dropWhile]
theorem due_at {L : List Pr} {now : Int} {i : Nat} (hi : i < (dueL L now).length) : (dueL L now).getD i 0 = (L.getD i (0, 0)).1 ∧ (L.getD i (0, 0)).2 ≤ now ∧ i < L.length := by
  unfold dueL at hi
  have hi2 : i < (L.takeWhile fun a => decide (a.2 ≤ now)).length := by simpa [ids] using hi
  have hl : i < L.length := Nat.lt_of_lt_of_le hi2 (List.takeWhile_sublist _).length_le
  have e : L.getD i (0, 0) = (L.takeWhile fun a => decide (a.2 ≤ now)).getD i (0, 0) := by
    have h := List.takeWhile_append_dropWhile (p := fun a : Pr => decide (a.2 ≤ now)) (l := L)
    conv => lhs; rw [← h]
    rw [List.getD_eq_getElem?_getD, List.getElem?_append_left hi2, ← List.getD_eq_getElem?_getD]
  refine ⟨?_, ?_, hl⟩
  · unfold dueL
    rw [ids_at hi2, e]
  · have hm : (L.takeWhile fun a => decide (a.2 ≤ now)).getD i (0, 0) ∈ (L.takeWhile fun a => decide (a.2 ≤ now)) := by
      rw [List.getD_eq_getElem?_getD, List.getElem?_eq_getElem hi2]
      exact List.getElem_mem hi2
    rw [e]
    have := List.all_eq_true.1 (List.all_takeWhile (p := fun a : Pr => decide (a.2 ≤ now)) (l := L)) _ hm
    simpa using this
theorem rest_at {L : List Pr} {now : Int} {i : Nat} (hi : i < (dueN L now).length) : (dueN L now).getD i (0, 0) = L.getD ((dueL L now).length + i) (0, 0) := by
  have h := List.takeWhile_append_dropWhile (p := fun a : Pr => decide (a.2 ≤ now)) (l := L)
  have e : (dueL L now).length = (L.takeWhile fun a => decide (a.2 ≤ now)).length := by simp [dueL, ids]
  rw [e]
  conv => rhs; arg 1; rw [← h]
  rw [List.getD_eq_getElem?_getD, List.getD_eq_getElem?_getD, List.getElem?_append_right (by omega), Nat.add_sub_cancel_left]
  rfl
theorem rest_til {L : List Pr} {now : Int} (hs : L.Pairwise ltP) : ∀ a ∈ dueN L now, now < a.2 := by
  induction L with
  | nil => intro a ha; cases ha
  | cons b L ih =>
    unfold dueN
    rw [List.dropWhile_cons]
    split
    · exact ih (List.pairwise_cons.1 hs).2
    · rename_i h
      have hb : now < b.2 := by simpa using h
      intro a ha
      rcases List.mem_cons.1 ha with h1 | h1
      · rw [h1]; exact hb
      · have := (List.pairwise_cons.1 hs).1 a h1
        unfold ltP at this
        omega
theorem due_not {L : List Pr} {now : Int} (hn : (ids L).Nodup) {x : Int} (hx : x ∈ dueL L now) : x ∉ ids (dueN L now) := by
  have h := List.takeWhile_append_dropWhile (p := fun a : Pr => decide (a.2 ≤ now)) (l := L)
  rw [← h] at hn
  unfold ids at hn
  rw [List.map_append, List.nodup_append] at hn
  intro h2
  exact hn.2.2 x hx x h2 rfl
theorem pair_at {L : List Pr} (hs : L.Pairwise ltP) {i : Nat} (hi : i + 1 < L.length) : ltP (L.getD i (0, 0)) (L.getD (i + 1) (0, 0)) := by
  rw [List.getD_eq_getElem?_getD, List.getD_eq_getElem?_getD, List.getElem?_eq_getElem (by omega), List.getElem?_eq_getElem hi]
  exact List.pairwise_iff_getElem.1 hs i (i + 1) (by omega) hi (by omega)
/-- what is left behind Due -/
structure EndSt (w : World) (q : Nat) (L L2 : List Pr) (n Dm : Nat) (wr : World) : Prop where
  que : Que wr (fun k => k < w.heap.size ∨ k = Dm) q L2 n
  map : MapAt wr Dm L L.length
  bel : Below w.heap.size w wr
theorem EndSt.below {w : World} {q : Nat} {L L2 : List Pr} {n Dm : Nat} {wr w' : World} (S : EndSt w q L L2 n Dm wr) (hb : Below wr.heap.size wr w') : EndSt w q L L2 n Dm w' :=
  ⟨S.que.below hb, S.map.block (hb.block _ S.map.lt), S.bel.trans (hb.mono S.bel.size)⟩
theorem MapSt.due {w : World} {q : Nat} {L : List Pr} {n Dm : Nat} {A : Option Addr} {wr : World} (S : MapSt w q L n Dm A L.length wr) {now : Int} (hnow : wf64 now) {y : Nat} (hy : (dueL L now).length = y) :
    Calls Try.prog 15 #[.pointer (some ⟨q, 0, none⟩), .int .i64 now] wr fun e w' => ∃ A2 c2, e = .returned (.slice A2 y c2) ∧ Hid (IntsAt w' A2 (dueL L now)) ∧ Hid (EndSt w q L (dueN L now) n Dm w') := by
  refine (due_any wr _ q L n S.que now hnow).mono ?_
  rintro e w' ⟨v, rfl, D⟩
  obtain ⟨A2, c2, e1, i1, _⟩ := RowI.open_ (l := dueL L now) D.out.row
  have hD := D.out
  subst e1
  rw [hy] at hD ⊢
  exact ⟨A2, c2, rfl, i1, hD.base, S.map.block (hD.keep.block _ S.map.lt fun e => e (Or.inr rfl)), S.bel.trans (hD.keep.below S.bel.size fun k hk => Nat.le_of_not_lt fun e => hk (Or.inl e))⟩
theorem EndSt.until {w : World} {q : Nat} {L L2 : List Pr} {n Dm : Nat} {wr : World} (S : EndSt w q L L2 n Dm wr) {x : Int} (hx : wf64 x) (hn : x ∉ ids L2) :
    Calls Try.prog 12 #[.pointer (some ⟨q, 0, none⟩), .int .i64 x] wr fun e w' => e = .returned (.tuple #[.int .i64 0, .bool false]) ∧ wr = w' := by
  have h := until_any wr _ q L2 n S.que x hx
  have e1 : tilV L2 x = 0 := by unfold tilV; rw [tilOf_none.2 hn]; rfl
  have e2 : hasV L2 x = false := by unfold hasV; rw [tilOf_none.2 hn]; rfl
  rw [e1, e2] at h
  exact h
theorem EndSt.all {w : World} {q : Nat} {L L2 : List Pr} {n Dm m : Nat} {wr : World} (S : EndSt w q L L2 n Dm wr) (hm : L2.length = m) :
    Calls Try.prog 18 #[.pointer (some ⟨q, 0, none⟩)] wr fun e w' => ∃ A c, e = .returned (.slice A m c) ∧ Hid (IntsAt w' A (ids L2)) ∧ Hid (EndSt w q L L2 n Dm w') := by
  refine (all_any wr _ q L2 n S.que).mono ?_
  rintro e w' ⟨v, rfl, h1, h2, h3⟩
  obtain ⟨A, c, e1, i1, _⟩ := h1.out.open_
  have hl : (ids L2).length = m := by rw [← hm]; simp [ids]
  subst e1
  rw [hl]
  exact ⟨A, c, rfl, i1, S.below h3.out⟩
end Go.Proofs.Ytiaonfmdjipekaa.Ls
