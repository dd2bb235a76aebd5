/- Law: LeaseSame. Conditions: none. -/
import Derived.Test.YtiaonfmdjipekaaLsTwo
set_option linter.unusedVariables false
namespace Go.Proofs.Ytiaonfmdjipekaa.Ls
open Go.RowKit Go.Maps
theorem same_put {p : Pr} {D : List Pr} (hs : (p :: D).Pairwise ltP) (hn : (ids (p :: D)).Nodup) (hl : (p :: D).length ≤ 1024) (h1 : 1 ≤ p.1) (u : Int) :
    putC D p.1 = 0 ∧ putC (putR D p.1 u) p.1 = 0 ∧ putR (putR D p.1 u) p.1 p.2 = p :: D := by
  have hp : p.1 ∉ ids D := (List.nodup_cons.1 hn).1
  have hsD : D.Pairwise ltP := (List.pairwise_cons.1 hs).2
  have hl2 : D.length ≠ 1024 := by rw [List.length_cons] at hl; omega
  have hlt : ¬ p.1 < 1 := by omega
  have e1 : putR D p.1 u = insP (p.1, u) D := by
    unfold putR
    rw [if_neg hlt, if_neg hp, if_neg hl2]
  have hm : p.1 ∈ ids (insP (p.1, u) D) := List.mem_map.2 ⟨(p.1, u), (insP_perm _ _).mem_iff.2 List.mem_cons_self, rfl⟩
  have e2 : remP p.1 (insP (p.1, u) D) = D := by
    refine sorted_unique ?_ (remP_sorted (insP_sorted (p.1, u) D hsD hp) _) hsD
    refine (perm_remP (insP_perm (p.1, u) D) p.1).trans ?_
    have : remP p.1 ((p.1, u) :: D) = remP p.1 D := by simp [remP]
    rw [this, remP_none hp]
  refine ⟨?_, ?_, ?_⟩
  · unfold putC
    rw [if_neg hlt, if_neg hp, if_neg hl2]
  · rw [e1]
    unfold putC
    rw [if_neg hlt, if_pos hm]
  · rw [e1]
    unfold putR
    rw [if_neg hlt, if_pos hm, e2]
    exact sorted_unique (insP_perm _ _) (insP_sorted _ _ hsD hp) hs
theorem QueS.state {w : World} {S : Nat → Prop} {q : Nat} {L : List Pr} {N : Nat} (h : QueS w S q L N) : L.Pairwise ltP ∧ (ids L).Nodup ∧ L.length ≤ 1024 ∧ ∀ p ∈ L, wf64 p.2 ∧ 1 ≤ p.1 ∧ p.1 < 9223372036854775808 := h.que.state
theorem Two.state {R : Nat → Prop} {p q : Nat} {L M : List Pr} {N : Nat} {w : World} (h : Two R p q L M N w) : L.Pairwise ltP ∧ (ids L).Nodup ∧ L.length ≤ 1024 ∧ ∀ p ∈ L, wf64 p.2 ∧ 1 ≤ p.1 ∧ p.1 < 9223372036854775808 := by
  obtain ⟨S, T, h1, _⟩ := h
  exact h1.state
theorem below_of {n : Nat} {R : Nat → Prop} {a b : World} (h : Keep R a b) (hR : ∀ k, k < n → R k) (hs : n ≤ a.heap.size) : Below n a b := h.below hs fun k hk => Nat.le_of_not_lt fun e => hk (hR k e)
theorem drop_at {L : List Pr} {j : Nat} (h : j < L.length) : L.drop j = L.getD j (0, 0) :: L.drop (j + 1) := by
  rw [List.drop_eq_getElem_cons h, List.getD_eq_getElem?_getD, List.getElem?_eq_getElem h]
  rfl
theorem ids_at {L : List Pr} {j : Nat} (h : j < L.length) : (ids L).getD j 0 = (L.getD j (0, 0)).1 := by
  rw [List.getD_eq_getElem?_getD, List.getD_eq_getElem?_getD, List.getElem?_eq_getElem h, List.getElem?_eq_getElem (by simpa [ids] using h)]
  simp [ids]
/-- what the second loop holds: the second queue has what is behind k -/
structure SameSt (w : World) (R : Nat → Prop) (p q : Nat) (L : List Pr) (A : Option Addr) (k : Nat) (wr : World) : Prop where
  two : ∃ N, N + 2 * k ≤ 2 * L.length + 300 ∧ Two R p q L (L.drop k) N wr
  row : IntsAt wr A (ids L)
  bel : Below w.heap.size w wr
theorem SameSt.puts {w : World} {R : Nat → Prop} {p q : Nat} {L : List Pr} {A : Option Addr} {j : Nat} {wr : World} (S : SameSt w R p q L A (j + 1) wr) (hj : j < L.length) (hl : L.length ≤ 1024) (hR : ∀ k, k < w.heap.size → R k) (hA : ∀ g, A = some ⟨g, 0, none⟩ → R g) {i u u' : Int} (hi : (L.getD j (0, 0)).1 = i) (hu : (L.getD j (0, 0)).2 = u) (hu' : u' = u - min u 1) :
    Calls Try.prog 17 #[.pointer (some ⟨q, 0, none⟩), .int .i64 i, .int .i64 u'] wr fun e w' => e = .returned (.int .i64 0) ∧ (∃ g, A = some ⟨g, 0, none⟩ ∧ w'.cell? ⟨g, j, none⟩ = some (.int .i64 i)) ∧ Hid (Calls Try.prog 17 #[.pointer (some ⟨q, 0, none⟩), .int .i64 i, .int .i64 u] w' fun e w2 => e = .returned (.int .i64 0) ∧ Hid (SameSt w R p q L A j w2)) := by
  obtain ⟨N, hN, hT⟩ := S.two
  have st := hT.state
  have hd := drop_at hj
  have hmem : L.getD j (0, 0) ∈ L := by rw [List.getD_eq_getElem?_getD, List.getElem?_eq_getElem hj]; exact List.getElem_mem hj
  have wf := st.2.2.2 _ hmem
  have hsub : (L.getD j (0, 0) :: L.drop (j + 1)).Sublist L := by rw [← hd]; exact List.drop_sublist j L
  have P := same_put (st.1.sublist hsub) (List.Pairwise.sublist (hsub.map Prod.fst) st.2.1) (by have := hsub.length_le; omega) wf.2.1 u'
  rw [hi, hu] at P wf
  have hx : wf64 i := ⟨by omega, wf.2.2⟩
  have hw' : wf64 u' := by
    have h1 := wf.1.1
    have h2 := wf.1.2
    rw [hu']
    constructor <;> omega
  refine (hT.symm.put (by omega) hx hw').mono ?_
  rintro e w1 ⟨h1, h2, h3⟩
  rw [P.1] at h1
  have i1 := S.row.turn h3.out hA
  obtain ⟨g, g1, g2, g3⟩ := i1.get j (by simpa [ids] using hj)
  rw [ids_at hj, hi] at g3
  refine ⟨h1, ⟨g, g1, g3⟩, (h2.out.put (by omega) hx wf.1).mono ?_⟩
  rintro e w2 ⟨h4, h5, h6⟩
  rw [P.2.1] at h4
  have h7 := h5.out
  have hpu : (i, u) = L.getD j (0, 0) := by rw [← hi, ← hu]
  rw [P.2.2, ← hd] at h7
  have b1 := S.bel.trans (below_of h3.out hR S.bel.size)
  exact ⟨h4, ⟨⟨N + 2, by omega, h7.symm⟩, i1.turn h6.out hA, b1.trans (below_of h6.out hR b1.size)⟩⟩
theorem Two.mono {R R' : Nat → Prop} {p q : Nat} {L M : List Pr} {N : Nat} {w : World} (h : Two R p q L M N w) (hR : ∀ k, R' k → R k) : Two R' p q L M N w := h.below (Below.refl _ _) fun k hk => Or.inl (hR k hk)
/-- both queues have the same -/
structure SameX (w : World) (R : Nat → Prop) (p q : Nat) (X : List Pr) (wr : World) : Prop where
  two : ∃ N, Two R p q X X N wr
  bel : Below w.heap.size w wr
theorem ints_same (A1 A2 : Option Addr) (c1 c2 y : Nat) (l : List Int) (V : World) (h1 : IntsAt V A1 l) (h2 : IntsAt V A2 l) (hy : l.length = y) (hl : y ≤ 2000000) :
    Calls Try.prog 23 #[.slice A1 y c1, .slice A2 y c2] V fun e w' => e = .returned (.bool true) ∧ Hid (Below V.heap.size V w') := by
  have h := ints_any A1 A2 c1 c2 l l V h1 h2 (by omega) (by omega)
  rw [hy, decide_eq_true rfl] at h
  exact h
theorem SameX.below {w : World} {R : Nat → Prop} {p q : Nat} {X : List Pr} {wr V : World} (S : SameX w R p q X wr) (hb : Below wr.heap.size wr V) : SameX w R p q X V := by
  obtain ⟨N, hT⟩ := S.two
  exact ⟨⟨N, hT.below hb fun k hk => Or.inl hk⟩, S.bel.trans (hb.mono S.bel.size)⟩
theorem SameX.firstP {w : World} {R : Nat → Prop} {p q : Nat} {i u : Int} {X : List Pr} {wr : World} (S : SameX w R p q ((i, u) :: X) wr) :
    Calls Try.prog 20 #[.pointer (some ⟨p, 0, none⟩)] wr fun e w' => e = .returned (.tuple #[.int .i64 i, .int .i64 u, .bool true]) ∧ Hid (SameX w R p q ((i, u) :: X) w') := by
  obtain ⟨N, hT⟩ := S.two
  exact hT.first.mono fun e w' ⟨h1, h2, h3⟩ => ⟨h1, S.below h3.out⟩
theorem SameX.symm {w : World} {R : Nat → Prop} {p q : Nat} {X : List Pr} {wr : World} (S : SameX w R p q X wr) : SameX w R q p X wr := by
  obtain ⟨N, hT⟩ := S.two
  exact ⟨⟨N, hT.symm⟩, S.bel⟩
theorem SameX.firstQ {w : World} {R : Nat → Prop} {p q : Nat} {i u : Int} {X : List Pr} {wr : World} (S : SameX w R p q ((i, u) :: X) wr) :
    Calls Try.prog 20 #[.pointer (some ⟨q, 0, none⟩)] wr fun e w' => e = .returned (.tuple #[.int .i64 i, .int .i64 u, .bool true]) ∧ Hid (SameX w R p q ((i, u) :: X) w') :=
  S.symm.firstP.mono fun e w' ⟨h1, h2⟩ => ⟨h1, h2.out.symm⟩
theorem SameX.lenP {w : World} {R : Nat → Prop} {p q m : Nat} {X : List Pr} {wr : World} (S : SameX w R p q X wr) (hm : X.length = m) :
    Calls Try.prog 13 #[.pointer (some ⟨p, 0, none⟩)] wr fun e w' => e = .returned (.int .i64 (m : Nat)) ∧ wr = w' := by
  obtain ⟨N, hT⟩ := S.two
  exact hT.len hm
def HalfX (w : World) (R : Nat → Prop) (p q : Nat) (X2 X : List Pr) (ys : List Int) (A1 : Option Addr) (wr : World) : Prop := (∃ N, Two (RowR R A1) p q X2 X N wr) ∧ IntsAt wr A1 ys ∧ Below w.heap.size w wr
theorem SameX.dueP {w : World} {R : Nat → Prop} {p q y : Nat} {X : List Pr} {u : Int} {wr : World} (S : SameX w R p q X wr) (hR : ∀ k, k < w.heap.size → R k) (hu : wf64 u) (hy : (dueL X u).length = y) :
    Calls Try.prog 15 #[.pointer (some ⟨p, 0, none⟩), .int .i64 u] wr fun e w' => ∃ A1 c1, e = .returned (.slice A1 y c1) ∧ Hid (HalfX w R p q (dueN X u) X (dueL X u) A1 w') := by
  obtain ⟨N, hT⟩ := S.two
  refine (hT.due hu hy).mono ?_
  rintro e w' ⟨A1, c1, h1, h2, h3, h4⟩
  exact ⟨A1, c1, h1, ⟨N, h3.out⟩, h2.out, S.bel.trans (below_of h4.out hR S.bel.size)⟩
theorem HalfX.dueQ {w : World} {R : Nat → Prop} {p q y : Nat} {X2 X : List Pr} {u : Int} {A1 : Option Addr} {wr : World} (H : HalfX w R p q X2 X (dueL X u) A1 wr) (hX : dueN X u = X2) (hR : ∀ k, k < w.heap.size → R k) (hu : wf64 u) (hy : (dueL X u).length = y) (hl : y ≤ 2000000) :
    Calls Try.prog 15 #[.pointer (some ⟨q, 0, none⟩), .int .i64 u] wr fun e w' => ∃ A2 c2, e = .returned (.slice A2 y c2) ∧ Hid (∀ c1, Calls Try.prog 23 #[.slice A1 y c1, .slice A2 y c2] w' fun e w2 => e = .returned (.bool true) ∧ Hid (SameX w R p q X2 w2)) := by
  obtain ⟨⟨N, hT⟩, h1, h2⟩ := H
  refine (hT.symm.due hu hy).mono ?_
  rintro e w' ⟨A2, c2, h3, h4, h5, h6⟩
  have b1 := h2.trans (below_of h6.out (fun k hk => Or.inl (hR k hk)) h2.size)
  refine ⟨A2, c2, h3, fun c1 => ?_⟩
  refine (ints_same A1 A2 c1 c2 y _ w' (h1.turn h6.out fun g hg => Or.inr hg) h4.out hy hl).mono ?_
  rintro e w2 ⟨h7, h8⟩
  have h9 : SameX w R p q X2 w' := ⟨⟨N, by have := h5.out.symm; rw [hX] at this; exact this.mono fun k hk => Or.inl (Or.inl hk)⟩, b1⟩
  exact ⟨h7, h9.below h8.out⟩
theorem SameX.all2 {w : World} {R : Nat → Prop} {p q m : Nat} {X : List Pr} {wr : World} (S : SameX w R p q X wr) (hm : X.length = m) (hl : m ≤ 1024) :
    Calls Try.prog 18 #[.pointer (some ⟨p, 0, none⟩)] wr fun e w1 => ∃ A1 c1, e = .returned (.slice A1 m c1) ∧ Hid (Calls Try.prog 18 #[.pointer (some ⟨q, 0, none⟩)] w1 fun e w2 => ∃ A2 c2, e = .returned (.slice A2 m c2) ∧ Hid (Calls Try.prog 23 #[.slice A1 m c1, .slice A2 m c2] w2 fun e w3 => e = .returned (.bool true) ∧ Hid (Below w.heap.size w w3))) := by
  obtain ⟨N, hT⟩ := S.two
  refine (hT.all hm).mono ?_
  rintro e w1 ⟨A1, c1, h1, h2, h3, h4⟩
  refine ⟨A1, c1, h1, (h3.out.symm.all hm).mono ?_⟩
  rintro e w2 ⟨A2, c2, h5, h6, h7, h8⟩
  have b1 := S.bel.trans (h4.out.mono S.bel.size)
  have b2 := b1.trans (h8.out.mono b1.size)
  refine ⟨A2, c2, h5, (ints_same A1 A2 c1 c2 m _ w2 (h2.out.below h8.out) h6.out (by rw [← hm]; simp [ids]) (by omega)).mono ?_⟩
  rintro e w3 ⟨h9, h10⟩
  exact ⟨h9, b2.trans (h10.out.mono b2.size)⟩
theorem SameSt.mid {w : World} {R : Nat → Prop} {p q m : Nat} {L : List Pr} {A : Option Addr} {wr : World} (S : SameSt w R p q L A 0 wr) (hm : L.length = m) (hl : m ≤ 1024) :
    Calls Try.prog 18 #[.pointer (some ⟨q, 0, none⟩)] wr fun e w1 => ∃ A1 c1, e = .returned (.slice A1 m c1) ∧ Hid (∀ c, Calls Try.prog 23 #[.slice A1 m c1, .slice A m c] w1 fun e w2 => e = .returned (.bool true) ∧ Hid (SameX w R p q L w2)) := by
  obtain ⟨N, _, hT⟩ := S.two
  rw [List.drop_zero] at hT
  refine (hT.symm.all hm).mono ?_
  rintro e w1 ⟨A1, c1, h1, h2, h3, h4⟩
  refine ⟨A1, c1, h1, fun c => (ints_same A1 A c1 c m _ w1 h2.out (S.row.below h4.out) (by rw [← hm]; simp [ids]) (by omega)).mono ?_⟩
  rintro e w2 ⟨h5, h6⟩
  have h7 : SameX w R p q L w1 := ⟨⟨N, h3.out.symm.mono fun k hk => Or.inl hk⟩, S.bel.trans (h4.out.mono S.bel.size)⟩
  exact ⟨h5, h7.below h6.out⟩
end Go.Proofs.Ytiaonfmdjipekaa.Ls
