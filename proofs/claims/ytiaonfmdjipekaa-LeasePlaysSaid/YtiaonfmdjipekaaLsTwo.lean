/- Two queues side by side: each has blocks of its own. Conditions: none. -/
import Derived.Test.YtiaonfmdjipekaaLawLsC
set_option linter.unusedVariables false
namespace Go.Proofs.Ytiaonfmdjipekaa.Ls
open Go.RowKit Go.Maps
/-- a queue all of whose blocks lie in S -/
structure QueS (w : World) (S : Nat → Prop) (q : Nat) (L : List Pr) (N : Nat) : Prop where
  que : Que w (fun b => b < w.heap.size ∧ ¬ S b) q L N
  old : ∀ k, S k → k < w.heap.size
/-- two queues, and blocks R that neither has -/
def Two (R : Nat → Prop) (p q : Nat) (L M : List Pr) (N : Nat) (w : World) : Prop :=
  ∃ S T : Nat → Prop, QueS w S p L N ∧ QueS w T q M N ∧ (∀ k, S k → ¬ T k) ∧ ∀ k, R k → k < w.heap.size ∧ ¬ S k ∧ ¬ T k
theorem Two.symm {R : Nat → Prop} {p q : Nat} {L M : List Pr} {N : Nat} {w : World} (h : Two R p q L M N w) : Two R q p M L N w := by
  obtain ⟨S, T, h1, h2, h3, h4⟩ := h
  exact ⟨T, S, h2, h1, fun k hT hS => h3 k hS hT, fun k hk => ⟨(h4 k hk).1, (h4 k hk).2.2, (h4 k hk).2.1⟩⟩
theorem QueS.other {w w' : World} {S : Nat → Prop} {q : Nat} {L : List Pr} {N N' : Nat} (h : QueS w S q L N) (hN : N ≤ N') (hT : Turn (fun b => b < w.heap.size ∧ ¬ S b) w w') : QueS w' S q L N' :=
  ⟨(h.que.mono hN).other hT (fun k hk => by
    by_cases hl : k < w.heap.size
    · exact Or.inl ⟨hl, hk.2⟩
    · exact Or.inr (by omega)) (fun k hk => hk.1), fun k hk => Nat.lt_of_lt_of_le (h.old k hk) hT.size⟩
/-- nothing that was there turns; new blocks may be kept from both -/
theorem Two.below {R R' : Nat → Prop} {p q : Nat} {L M : List Pr} {N : Nat} {w w' : World} (h : Two R p q L M N w) (hb : Below w.heap.size w w') (hR : ∀ k, R' k → R k ∨ (w.heap.size ≤ k ∧ k < w'.heap.size)) : Two R' p q L M N w' := by
  obtain ⟨S, T, h1, h2, h3, h4⟩ := h
  refine ⟨S, T, h1.other (Nat.le_refl _) (Turn.of_below hb), h2.other (Nat.le_refl _) (Turn.of_below hb), h3, fun k hk => ?_⟩
  rcases hR k hk with h5 | ⟨h5, h6⟩
  · exact ⟨Nat.lt_of_lt_of_le (h4 k h5).1 hb.size, (h4 k h5).2⟩
  · exact ⟨h6, fun e => by have := h1.old k e; omega, fun e => by have := h2.old k e; omega⟩
/-- the first one is called -/
theorem Two.op {R : Nat → Prop} {p q : Nat} {L M : List Pr} {N : Nat} {w : World} (h : Two R p q L M N w) :
    ∃ B : Nat → Prop, Que w B p L N ∧ (∀ k, R k → B k) ∧ ∀ (w' : World) (B2 R' : Nat → Prop) (L' : List Pr) (N' : Nat), N ≤ N' → Que w' B2 p L' N' → Keep B w w' → (∀ k, B k → B2 k) → (∀ k, R' k → R k ∨ (w.heap.size ≤ k ∧ B2 k)) → Two R' p q L' M N' w' := by
  obtain ⟨S, T, h1, h2, h3, h4⟩ := h
  refine ⟨_, h1.que, fun k hk => ⟨(h4 k hk).1, (h4 k hk).2.1⟩, fun w' B2 R' L' N' hN hQ hK hB hR => ?_⟩
  refine ⟨fun k => k < w'.heap.size ∧ ¬ B2 k, T, ⟨hQ.other (Turn.refl _ _) (fun k hk => Or.inl (Classical.byContradiction fun e => hk.2 ⟨hk.1, e⟩)) (fun k hk => hk.1), fun k hk => hk.1⟩, h2.other hN (hK.mono fun k hl hk => ⟨hl, ?_⟩), fun k hS hT => ?_, fun k hk => ?_⟩
  · intro hT
    exact hk ⟨hl, fun hS => h3 k hS hT⟩
  · exact hS.2 (hB k ⟨h2.old k hT, fun e => h3 k e hT⟩)
  · rcases hR k hk with h5 | ⟨h5, h6⟩
    · have h7 := h4 k h5
      exact ⟨Nat.lt_of_lt_of_le h7.1 hK.size, fun e => e.2 (hB k ⟨h7.1, h7.2.1⟩), h7.2.2⟩
    · exact ⟨hQ.old k h6, fun e => e.2 h6, fun e => by have := h2.old k e; omega⟩
/-- what is kept by a call -/
theorem keep_of {R B : Nat → Prop} {w w' : World} (h : Keep B w w') (hR : ∀ k, R k → B k) : Keep R w w' := h.mono fun k _ hk e => hk (hR k e)
theorem IntsAt.turn {w w' : World} {A : Option Addr} {l : List Int} {R : Nat → Prop} (h : IntsAt w A l) (hk : Keep R w w') (hR : ∀ g, A = some ⟨g, 0, none⟩ → R g) : IntsAt w' A l :=
  ⟨fun i hi => by
    obtain ⟨b, h1, h2, h3⟩ := h.get i hi
    exact ⟨b, h1, Nat.lt_of_lt_of_le h2 hk.size, by rw [← h3]; unfold World.cell?; rw [hk.block b h2 (fun e => e (hR b h1))]⟩⟩
theorem two_new (w : World) : Calls Try.prog 9 #[] w fun e w1 => ∃ p, e = .returned (.pointer (some ⟨p, 0, none⟩)) ∧ Hid (Calls Try.prog 9 #[] w1 fun e w2 => ∃ q, e = .returned (.pointer (some ⟨q, 0, none⟩)) ∧ Hid (Two (fun k => k < w.heap.size) p q [] [] 0 w2) ∧ Hid (Below w.heap.size w w2)) := by
  refine (new_any w (fun k => k < w.heap.size) (fun k h => h)).mono fun e w1 ⟨h1, h2, h3⟩ => ⟨_, h1, ?_⟩
  refine (new_any w1 (fun k => k < w1.heap.size) (fun k h => h)).mono fun e w2 ⟨h4, h5, h6⟩ => ⟨_, h4, ?_, h3.out.trans (h6.out.mono h3.out.size)⟩
  have s1 := h3.out.size
  have s2 := h6.out.size
  refine ⟨fun k => w.heap.size ≤ k ∧ k < w1.heap.size, fun k => w1.heap.size ≤ k ∧ k < w2.heap.size, ⟨h2.out.other (Turn.of_below h6.out) (fun k hk => ?_) (fun k hk => hk.1), fun k hk => by omega⟩, ⟨h5.out.other (Turn.refl _ _) (fun k hk => ?_) (fun k hk => hk.1), fun k hk => hk.2⟩, fun k h7 h8 => by omega, fun k hk => ⟨by omega, fun e => by omega, fun e => by omega⟩⟩
  · by_cases h7 : k < w.heap.size
    · exact Or.inl h7
    · refine Or.inr ?_
      by_cases h8 : w1.heap.size ≤ k
      · exact h8
      · exact absurd ⟨Nat.le_of_not_lt h7, by omega⟩ hk.2
  · refine Or.inl ?_
    by_cases h8 : w1.heap.size ≤ k
    · exact absurd ⟨h8, hk.1⟩ hk.2
    · omega
/-- a call of the first one -/
theorem Two.does {R : Nat → Prop} {p q : Nat} {L M : List Pr} {N : Nat} {w : World} (h : Two R p q L M N w) (hN : N < 1000000) (a : AV) (ha : a.ok) :
    Calls Try.prog 11 #[.pointer (some ⟨p, 0, none⟩), a.val] w fun e w' => ∃ v c, e = .returned (.tuple #[v, c]) ∧ Hid (Two R p q (doesR L a) M (N + 1) w') ∧ Hid (Keep R w w') := by
  obtain ⟨B, h1, h2, h3⟩ := h.op
  refine (does_any w B p L N h1 hN a ha).mono ?_
  rintro e w' ⟨v, rfl, D⟩
  exact ⟨v, _, rfl, h3 w' _ R _ _ (Nat.le_succ N) D.out.que D.out.keep (fun k hk => Or.inl hk) (fun k hk => Or.inl hk), keep_of D.out.keep h2⟩
theorem Two.put {R : Nat → Prop} {p q : Nat} {L M : List Pr} {N : Nat} {w : World} (h : Two R p q L M N w) (hN : N < 1000000) {x t : Int} (hx : wf64 x) (ht : wf64 t) :
    Calls Try.prog 17 #[.pointer (some ⟨p, 0, none⟩), .int .i64 x, .int .i64 t] w fun e w' => e = .returned (.int .i64 (putC L x)) ∧ Hid (Two R p q (putR L x t) M (N + 1) w') ∧ Hid (Keep R w w') := by
  obtain ⟨B, h1, h2, h3⟩ := h.op
  exact (put_any w B p L N h1 (by omega) x t hx ht).mono fun e w' ⟨a, b, c⟩ => ⟨a, h3 w' B R _ _ (Nat.le_succ N) b.out c.out (fun k hk => hk) (fun k hk => Or.inl hk), keep_of c.out h2⟩
theorem Two.len {R : Nat → Prop} {p q : Nat} {L M : List Pr} {N : Nat} {w : World} (h : Two R p q L M N w) {m : Nat} (hm : L.length = m) :
    Calls Try.prog 13 #[.pointer (some ⟨p, 0, none⟩)] w fun e w' => e = .returned (.int .i64 (m : Nat)) ∧ w = w' := by
  obtain ⟨B, h1, h2, h3⟩ := h.op
  exact hm ▸ qlen_any w B p L N h1
theorem Two.until {R : Nat → Prop} {p q : Nat} {L M : List Pr} {N : Nat} {w : World} (h : Two R p q L M N w) {x : Int} (hx : wf64 x) :
    Calls Try.prog 12 #[.pointer (some ⟨p, 0, none⟩), .int .i64 x] w fun e w' => e = .returned (.tuple #[.int .i64 (tilV L x), .bool (hasV L x)]) ∧ w = w' := by
  obtain ⟨B, h1, h2, h3⟩ := h.op
  exact until_any w B p L N h1 x hx
theorem Two.first {R : Nat → Prop} {p q : Nat} {L M : List Pr} {N : Nat} {w : World} (h : Two R p q L M N w) :
    Calls Try.prog 20 #[.pointer (some ⟨p, 0, none⟩)] w fun e w' => e = .returned (.tuple #[.int .i64 (idF L), .int .i64 (tilF L), .bool (someF L)]) ∧ Hid (Two R p q L M N w') ∧ Hid (Below w.heap.size w w') := by
  obtain ⟨B, h1, h2, h3⟩ := h.op
  exact (first_any w B p L N h1).mono fun e w' ⟨a, b⟩ => ⟨a.trans (by rw [firstV_parts]), h.below b.out (fun k hk => Or.inl hk), b⟩
/-- R, and the block of a row -/
def RowR (R : Nat → Prop) (A : Option Addr) (k : Nat) : Prop := R k ∨ A = some ⟨k, 0, none⟩
theorem Two.all {R : Nat → Prop} {p q : Nat} {L M : List Pr} {N : Nat} {w : World} (h : Two R p q L M N w) {m : Nat} (hm : L.length = m) :
    Calls Try.prog 18 #[.pointer (some ⟨p, 0, none⟩)] w fun e w' => ∃ A c, e = .returned (.slice A m c) ∧ Hid (IntsAt w' A (ids L)) ∧ Hid (Two (RowR R A) p q L M N w') ∧ Hid (Below w.heap.size w w') := by
  obtain ⟨B, h1, h2, h3⟩ := h.op
  refine (all_any w B p L N h1).mono ?_
  rintro e w' ⟨v, rfl, h4, h5, h6⟩
  obtain ⟨A, c, e1, i1, e2⟩ := h4.out.open_
  have hl : (ids L).length = m := by rw [← hm]; simp [ids]
  have hlt := row_lt h4.out
  subst e1
  rw [hl]
  refine ⟨A, c, rfl, i1, h.below h6.out (fun k hk => hk.imp id fun e => ?_), h6⟩
  have e3 := (e2 k).2 e
  exact ⟨h5.out k e3, hlt k e3⟩
theorem Two.due {R : Nat → Prop} {p q : Nat} {L M : List Pr} {N : Nat} {w : World} (h : Two R p q L M N w) {now : Int} (hnow : wf64 now) {m : Nat} (hm : (dueL L now).length = m) :
    Calls Try.prog 15 #[.pointer (some ⟨p, 0, none⟩), .int .i64 now] w fun e w' => ∃ A c, e = .returned (.slice A m c) ∧ Hid (IntsAt w' A (dueL L now)) ∧ Hid (Two (RowR R A) p q (dueN L now) M N w') ∧ Hid (Keep R w w') := by
  obtain ⟨B, h1, h2, h3⟩ := h.op
  refine (due_any w B p L N h1 now hnow).mono ?_
  rintro e w' ⟨v, rfl, D⟩
  obtain ⟨A, c, e1, i1, e2⟩ := RowI.open_ (l := dueL L now) D.out.row
  have hD := D.out
  subst e1
  rw [hm] at hD e2 ⊢
  refine ⟨A, c, rfl, i1, h3 w' _ (RowR R A) _ _ (Nat.le_refl N) hD.que hD.keep (fun k hk => Or.inl hk) (fun k hk => hk.imp id fun e => ?_), keep_of hD.keep h2⟩
  have e3 := (e2 k).2 e
  exact ⟨hD.new k e3, Or.inr e3⟩
end Go.Proofs.Ytiaonfmdjipekaa.Ls
