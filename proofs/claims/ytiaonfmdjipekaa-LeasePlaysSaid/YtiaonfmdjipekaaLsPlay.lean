/- Both queues side by side: the law's would; what both hold. Conditions: rows that lie. -/
import Derived.Test.YtiaonfmdjipekaaLsRefD
set_option linter.unusedVariables false
namespace Go.Proofs.Ytiaonfmdjipekaa.Ls
open Go.RowKit Go.Maps
theorem rput_any (w : World) (r : Nat) (A : Option Addr) (c : Nat) (L : List Pr) (Q : RQ w r A c L) (x t : Int) (hl : L.length ≤ 1024) (hn : (ids L).Nodup) (hs : L.Pairwise ltP) (hA : ∀ b off, A = some ⟨b, off, none⟩ → b < w.heap.size) :
    Calls Try.prog 34 #[.pointer (some ⟨r, 0, none⟩), .int .i64 x, .int .i64 t] w fun e w' => e = .returned (.int .i64 (putC L x)) ∧ Hid (RPost w r A (putR L x t) w') := by
  by_cases hx : x < 1
  · exact rput_one w r A c L Q x t hx hA
  · exact rput_more w r A c L Q x t hx hl hn hs hA
theorem RPost.back {w0 w w' : World} {r : Nat} {A : Option Addr} {L : List Pr} (h : RPost w r A L w') (hb : Below w0.heap.size w0 w) : RPost w0 r A L w' := by
  obtain ⟨A', c', h1, h2, h3⟩ := h
  exact ⟨A', c', h1, fun b off e => ⟨(h2 b off e).1.imp (fun h => Nat.le_trans hb.size h) id, (h2 b off e).2⟩, (Turn.of_below hb).trans h3⟩
set_option maxRecDepth 100000 in
set_option maxHeartbeats 1600000 in
theorem would_any (w : World) (r : Nat) (A : Option Addr) (c : Nat) (L : List Pr) (Q : RQ w r A c L) (hl : L.length ≤ 1024) (hn : (ids L).Nodup) (hs : L.Pairwise ltP) (hA : ∀ b off, A = some ⟨b, off, none⟩ → b < w.heap.size) (a : AV) (ha : a.ok) :
    Calls Try.prog 19 #[.pointer (some ⟨r, 0, none⟩), a.val] w fun e w' => ∃ v, e = .returned (.tuple #[v, .int .i64 (doesC L a)]) ∧ Hid (w'.ownsRow w.heap.size 3 1 v (doesL L a).length (intVs (doesL L a))) ∧ Hid (RPost w r A (doesR L a) w') := by
  obtain ⟨k, x, t⟩ := a
  obtain ⟨⟨k0, k1⟩, hx, ht⟩ := ha
  simp only at k0 k1 hx ht
  have BX : Hid (∀ o, Below w.heap.size w (w.alloc o)) := fun o => (Below.refl _ w).alloc (Nat.le_refl _) o
  have HA2 : ∀ (o : Obj) b off, A = some ⟨b, off, none⟩ → b < (w.alloc o).heap.size := fun o b off e => by have := hA b off e; simp; omega
  have NIL : Hid (∀ w' : World, w'.ownsRow w.heap.size 3 1 (.slice none 0 0) ([] : List Int).length (intVs [])) := fun w' => World.ownsRow_nil _ _ _ _
  have PU : Hid (∀ o, Calls Try.prog 34 #[.pointer (some ⟨r, 0, none⟩), .int .i64 x, .int .i64 t] (w.alloc o) fun e w' => e = .returned (.int .i64 (putC L x)) ∧ Hid (RPost w r A (putR L x t) w')) := fun o =>
    (rput_any (w.alloc o) r A c L (Q.below (BX.out o)) x t hl hn hs (HA2 o)).mono fun e w' ⟨h1, h2⟩ => ⟨h1, h2.out.back (BX.out o)⟩
  have DR : Hid (∀ o, Calls Try.prog 32 #[.pointer (some ⟨r, 0, none⟩), .int .i64 x] (w.alloc o) fun e w' => e = .returned (.int .i64 (dropC L x)) ∧ Hid (RPost w r A (remP x L) w')) := fun o =>
    (rdrop_any (w.alloc o) r A c L (Q.below (BX.out o)) x hl hn (HA2 o)).mono fun e w' ⟨h1, h2⟩ => ⟨h1, h2.out.back (BX.out o)⟩
  have DU : Hid (∀ o, Calls Try.prog 33 #[.pointer (some ⟨r, 0, none⟩), .int .i64 t] (w.alloc o) fun e w' => ∃ v, e = .returned v ∧ Hid (w'.ownsRow w.heap.size 3 1 v (dueL L t).length (intVs (dueL L t))) ∧ Hid (RPost w r A (dueN L t) w')) := fun o =>
    (rdue_any (w.alloc o) r A c L (Q.below (BX.out o)) t hl (HA2 o)).mono fun e w' ⟨v, h1, h2, h3⟩ => ⟨v, h1, own_base h2.out (by simp), h3.out.back (BX.out o)⟩
  have hm : Int.tmod k 4 = k % 4 := by rw [Int.tmod_eq_emod_of_nonneg k0]
  obtain ⟨rr, hr⟩ : ∃ r, r = k % 4 := ⟨_, rfl⟩
  rw [← hr] at hm
  have HV : Hid (doesL L ⟨k, x, t⟩ = (if rr = 3 then dueL L t else []) ∧ doesR L ⟨k, x, t⟩ = (if rr = 2 then remP x L else if rr = 3 then dueN L t else putR L x t) ∧ doesC L ⟨k, x, t⟩ = (if rr = 2 then dropC L x else if rr = 3 then 0 else putC L x)) := by
    unfold doesL doesR doesC
    rw [hr]
    exact ⟨rfl, rfl, rfl⟩
  rw [HV.out.1, HV.out.2.1, HV.out.2.2]
  have hr4 : rr = 0 ∨ rr = 1 ∨ rr = 2 ∨ rr = 3 := by omega
  clear HV Q hr hA HA2 hn hs hl
  unfold AV.val
  rcases hr4 with rfl | rfl | rfl | rfl
  · simp only [show ¬ ((0 : Int) = 2) by omega, show ¬ ((0 : Int) = 3) by omega, if_false]
    go_enter Try.func19, Try.ntmps19
    go_wp2_with (go_at_call 34; (with_reducible refine (PU.out _).mono ?_); rintro e w1 ⟨rfl, P1⟩)
    go_ret2
    exact ⟨_, rfl, NIL.out _, P1⟩
  · simp only [show ¬ ((1 : Int) = 2) by omega, show ¬ ((1 : Int) = 3) by omega, if_false]
    go_enter Try.func19, Try.ntmps19
    go_wp2_with (go_at_call 34; (with_reducible refine (PU.out _).mono ?_); rintro e w1 ⟨rfl, P1⟩)
    go_ret2
    exact ⟨_, rfl, NIL.out _, P1⟩
  · simp only [show ¬ ((2 : Int) = 3) by omega, if_true, if_false]
    go_enter Try.func19, Try.ntmps19
    go_wp2_with (go_at_call 32; (with_reducible refine (DR.out _).mono ?_); rintro e w1 ⟨rfl, P1⟩)
    go_ret2
    exact ⟨_, rfl, NIL.out _, P1⟩
  · simp only [show ¬ ((3 : Int) = 2) by omega, if_true, if_false]
    go_enter Try.func19, Try.ntmps19
    go_wp2_with (go_at_call 33; (with_reducible refine (DU.out _).mono ?_); rintro e w1 ⟨v, rfl, O1, P1⟩)
    go_ret2
    exact ⟨_, rfl, O1, P1⟩
/-- both queues have L; blocks X are neither's -/
def PlayS (X : Nat → Prop) (q r : Nat) (L : List Pr) (N : Nat) (w : World) : Prop :=
  ∃ (S : Nat → Prop) (A : Option Addr) (c : Nat), QueS w S q L N ∧ RQ w r A c L ∧ ¬ S r ∧ (∀ b off, A = some ⟨b, off, none⟩ → ¬ S b ∧ b < w.heap.size) ∧ ∀ k, X k → ¬ S k ∧ k ≠ r ∧ k < w.heap.size
theorem PlayS.below {X X' : Nat → Prop} {q r : Nat} {L : List Pr} {N : Nat} {w w' : World} (h : PlayS X q r L N w) (hb : Below w.heap.size w w') (hX : ∀ k, X' k → X k ∨ (w.heap.size ≤ k ∧ k < w'.heap.size)) : PlayS X' q r L N w' := by
  obtain ⟨S, A, c, h1, h2, h3, h4, h5⟩ := h
  have hrw := blt h2.box
  refine ⟨S, A, c, h1.other (Nat.le_refl _) (Turn.of_below hb), h2.below hb, h3, fun b off e => ⟨(h4 b off e).1, Nat.lt_of_lt_of_le (h4 b off e).2 hb.size⟩, fun k hk => ?_⟩
  rcases hX k hk with h6 | ⟨h6, h7⟩
  · exact ⟨(h5 k h6).1, (h5 k h6).2.1, Nat.lt_of_lt_of_le (h5 k h6).2.2 hb.size⟩
  · exact ⟨fun e => by have := h1.old k e; omega, by omega, h7⟩
theorem PlayS.state {X : Nat → Prop} {q r : Nat} {L : List Pr} {N : Nat} {w : World} (h : PlayS X q r L N w) : L.Pairwise ltP ∧ (ids L).Nodup ∧ L.length ≤ 1024 ∧ ∀ p ∈ L, wf64 p.2 ∧ 1 ≤ p.1 ∧ p.1 < 9223372036854775808 := by
  obtain ⟨S, A, c, h1, _⟩ := h
  exact h1.state
/-- the program's queue was called; the document's was not yet -/
def HalfS (X : Nat → Prop) (q r : Nat) (L' L : List Pr) (N : Nat) (ys : List Int) (A1 : Option Addr) (w : World) : Prop :=
  IntsAt w A1 ys ∧ ∃ (S : Nat → Prop) (A : Option Addr) (c : Nat), QueS w S q L' N ∧ RQ w r A c L ∧ ¬ S r ∧ (∀ b off, A = some ⟨b, off, none⟩ → ¬ S b ∧ b < w.heap.size) ∧ (∀ k, X k → ¬ S k ∧ k ≠ r ∧ k < w.heap.size) ∧ (∀ g, A1 = some ⟨g, 0, none⟩ → g ≠ r) ∧ L.Pairwise ltP ∧ (ids L).Nodup ∧ L.length ≤ 1024
theorem PlayS.does {X : Nat → Prop} {q r : Nat} {L : List Pr} {N : Nat} {w : World} (h : PlayS X q r L N w) (hN : N < 1000000) (a : AV) (ha : a.ok) {y : Nat} (hy : (doesL L a).length = y) :
    Calls Try.prog 11 #[.pointer (some ⟨q, 0, none⟩), a.val] w fun e w' => ∃ A1 c1, e = .returned (.tuple #[.slice A1 y c1, .int .i64 (doesC L a)]) ∧ Hid (HalfS X q r (doesR L a) L (N + 1) (doesL L a) A1 w') ∧ Hid (Keep X w w') := by
  have st := h.state
  obtain ⟨S, A, c, h1, h2, h3, h4, h5⟩ := h
  refine (does_any w _ q L N h1.que hN a ha).mono ?_
  rintro e w' ⟨v, rfl, D⟩
  have hD := D.out
  obtain ⟨A1, c1, e1, i1, e2⟩ := RowI.open_ (l := doesL L a) hD.row
  have hrw := blt h2.box
  have hkb : ∀ k, k < w.heap.size → ¬ S k → w'.heap[k]? = w.heap[k]? := fun k hl hs => hD.keep.block k hl fun e => e ⟨hl, hs⟩
  have hsz := hD.keep.size
  subst e1
  rw [hy] at hD e2 ⊢
  refine ⟨A1, c1, rfl, ⟨i1, fun k => k < w'.heap.size ∧ ¬ BR (fun b => b < w.heap.size ∧ ¬ S b) (.slice A1 y c1) k, A, c, ⟨hD.que.other (Turn.refl _ _) (fun k hk => Or.inl (Classical.byContradiction fun e => hk.2 ⟨hk.1, e⟩)) (fun k hk => hk.1), fun k hk => hk.1⟩, ⟨(hkb r hrw h3).trans h2.box, h2.row.kept hsz fun b off e hl => hkb b hl (h4 b off e).1, h2.apart⟩, fun e => e.2 (Or.inl ⟨hrw, h3⟩), fun b off e => ⟨fun e3 => e3.2 (Or.inl ⟨(h4 b off e).2, (h4 b off e).1⟩), Nat.lt_of_lt_of_le (h4 b off e).2 hsz⟩, fun k hk => ⟨fun e => e.2 (Or.inl ⟨(h5 k hk).2.2, (h5 k hk).1⟩), (h5 k hk).2.1, Nat.lt_of_lt_of_le (h5 k hk).2.2 hsz⟩, fun g hg e => ?_, st.1, st.2.1, st.2.2.1⟩, keep_of hD.keep fun k hk => ⟨(h5 k hk).2.2, (h5 k hk).1⟩⟩
  have := hD.new g ((e2 g).2 hg)
  omega
theorem HalfS.would {X : Nat → Prop} {q r : Nat} {L : List Pr} {N : Nat} {A1 : Option Addr} {w : World} (a : AV) (h : HalfS X q r (doesR L a) L N (doesL L a) A1 w) (ha : a.ok) {y : Nat} (hy : (doesL L a).length = y) :
    Calls Try.prog 19 #[.pointer (some ⟨r, 0, none⟩), a.val] w fun e w' => ∃ A2 c2, e = .returned (.tuple #[.slice A2 y c2, .int .i64 (doesC L a)]) ∧ Hid (IntsAt w' A1 (doesL L a)) ∧ Hid (IntsAt w' A2 (doesL L a)) ∧ Hid (PlayS X q r (doesR L a) N w') ∧ Hid (Keep X w w') := by
  obtain ⟨h0, S, A, c, h1, h2, h3, h4, h5, hr, h8, h9, h10⟩ := h
  refine (would_any w r A c L h2 h10 h9 h8 (fun b off e => (h4 b off e).2) a ha).mono ?_
  rintro e w' ⟨v, rfl, O, P⟩
  obtain ⟨A', c', p1, p2, p3⟩ := P.out
  obtain ⟨A2, c2, e1, i2, e2⟩ := RowI.open_ (l := doesL L a) (own_base O.out (Nat.zero_le _))
  subst e1
  rw [hy]
  have hrw := blt h2.box
  have hT : Turn (fun b => b < w.heap.size ∧ ¬ S b) w w' := p3.mono fun k hl e => by rw [e]; exact ⟨hrw, h3⟩
  refine ⟨A2, c2, rfl, ⟨fun i hi => ?_⟩, i2, ⟨S, A', c', h1.other (Nat.le_refl _) hT, p1, h3, fun b off e => ?_, fun k hk => ⟨(h5 k hk).1, (h5 k hk).2.1, Nat.lt_of_lt_of_le (h5 k hk).2.2 p3.size⟩⟩, p3.mono fun k _ e hX => (h5 k hX).2.1 e⟩
  · obtain ⟨b, b1, b2, b3⟩ := h0.get i hi
    exact ⟨b, b1, Nat.lt_of_lt_of_le b2 p3.size, (World.cell?_of_block (a := ⟨b, i, none⟩) (p3.block b b2 (hr b b1))).trans b3⟩
  · have hlt := (p2 b off e).2
    rcases (p2 b off e).1 with h11 | ⟨off', h11⟩
    · exact ⟨fun hs => by have := h1.old b hs; omega, hlt⟩
    · exact ⟨(h4 b off' h11).1, hlt⟩
theorem PlayS.firstQ {X : Nat → Prop} {q r : Nat} {L : List Pr} {N : Nat} {w : World} (h : PlayS X q r L N w) :
    Calls Try.prog 20 #[.pointer (some ⟨q, 0, none⟩)] w fun e w' => e = .returned (.tuple #[.int .i64 (idF L), .int .i64 (tilF L), .bool (someF L)]) ∧ Hid (Below w.heap.size w w') := by
  obtain ⟨S, A, c, h1, _⟩ := h
  exact (first_any w _ q L N h1.que).mono fun e w' ⟨a, b⟩ => ⟨a.trans (by rw [firstV_parts]), b⟩
theorem PlayS.firstR {X : Nat → Prop} {q r : Nat} {L : List Pr} {N : Nat} {w : World} (h : PlayS X q r L N w) :
    Calls Try.prog 21 #[.pointer (some ⟨r, 0, none⟩)] w fun e w' => e = .returned (.tuple #[.int .i64 (idF L), .int .i64 (tilF L), .bool (someF L)]) ∧ Hid (Below w.heap.size w w') := by
  have st := h.state
  obtain ⟨S, A, c, h1, h2, _⟩ := h
  exact rfirst_any w r A c L h2 st.2.2.1
theorem PlayS.untilQ {X : Nat → Prop} {q r : Nat} {L : List Pr} {N : Nat} {w : World} (h : PlayS X q r L N w) {x : Int} (hx : wf64 x) :
    Calls Try.prog 12 #[.pointer (some ⟨q, 0, none⟩), .int .i64 x] w fun e w' => e = .returned (.tuple #[.int .i64 (tilV L x), .bool (hasV L x)]) ∧ w = w' := by
  obtain ⟨S, A, c, h1, _⟩ := h
  exact until_any w _ q L N h1.que x hx
theorem PlayS.untilR {X : Nat → Prop} {q r : Nat} {L : List Pr} {N : Nat} {w : World} (h : PlayS X q r L N w) (x : Int) :
    Calls Try.prog 22 #[.pointer (some ⟨r, 0, none⟩), .int .i64 x] w fun e w' => e = .returned (.tuple #[.int .i64 (tilV L x), .bool (hasV L x)]) ∧ w = w' := by
  have st := h.state
  obtain ⟨S, A, c, h1, h2, _⟩ := h
  exact runtil_any w r A c L h2 x st.2.2.1 st.2.1
theorem PlayS.lenQ {X : Nat → Prop} {q r m : Nat} {L : List Pr} {N : Nat} {w : World} (h : PlayS X q r L N w) (hm : L.length = m) :
    Calls Try.prog 13 #[.pointer (some ⟨q, 0, none⟩)] w fun e w' => e = .returned (.int .i64 (m : Nat)) ∧ w = w' := by
  obtain ⟨S, A, c, h1, _⟩ := h
  exact hm ▸ qlen_any w _ q L N h1.que
theorem PlayS.box {X : Nat → Prop} {q r m : Nat} {L : List Pr} {N : Nat} {w : World} (h : PlayS X q r L N w) (hm : L.length = m) : r < w.heap.size ∧ ∃ A c, w.cell? ⟨r, 0, none⟩ = some (.slice A m c) := by
  obtain ⟨S, A, c, h1, h2, _⟩ := h
  exact ⟨blt h2.box, A, c, by rw [← hm]; exact bcell h2.box 0⟩
theorem PlayS.allQ {X : Nat → Prop} {q r m : Nat} {L : List Pr} {N : Nat} {w : World} (h : PlayS X q r L N w) (hm : L.length = m) :
    Calls Try.prog 18 #[.pointer (some ⟨q, 0, none⟩)] w fun e w' => ∃ A1 c1, e = .returned (.slice A1 m c1) ∧ Hid (IntsAt w' A1 (ids L)) ∧ Hid (Below w.heap.size w w') := by
  obtain ⟨S, A, c, h1, _⟩ := h
  refine (all_any w _ q L N h1.que).mono ?_
  rintro e w' ⟨v, rfl, a1, a2, a3⟩
  obtain ⟨A1, c1, e1, i1, _⟩ := a1.out.open_
  subst e1
  rw [show (ids L).length = m by rw [← hm]; simp [ids]]
  exact ⟨A1, c1, rfl, i1, a3⟩
theorem PlayS.allR {X : Nat → Prop} {q r m : Nat} {L : List Pr} {N : Nat} {w : World} (h : PlayS X q r L N w) (hm : L.length = m) :
    Calls Try.prog 24 #[.pointer (some ⟨r, 0, none⟩)] w fun e w' => ∃ A1 c1, e = .returned (.slice A1 m c1) ∧ Hid (IntsAt w' A1 (ids L)) ∧ Hid (Below w.heap.size w w') := by
  have st := h.state
  obtain ⟨S, A, c, h1, h2, _⟩ := h
  refine (rall_any w r A c L h2 st.2.2.1).mono ?_
  rintro e w' ⟨v, rfl, a1, a2⟩
  have hl : (ids L).length = L.length := by simp [ids]
  obtain ⟨A1, c1, e1, i1, _⟩ := RowI.open_ (l := ids L) (by unfold RowI; rw [hl]; exact own_base a1.out (Nat.zero_le _))
  subst e1
  rw [hl, hm]
  exact ⟨A1, c1, rfl, i1, a2⟩
theorem play_new (w : World) : Calls Try.prog 9 #[] w fun e w1 => ∃ q, e = .returned (.pointer (some ⟨q, 0, none⟩)) ∧ Hid (Below w.heap.size w w1) ∧ Hid (PlayS (fun k => k < w.heap.size) q w1.heap.size [] 0 (w1.alloc (.cells #[.slice none 0 0] 45))) := by
  refine (new_any w (fun k => k < w.heap.size) (fun k h => h)).mono fun e w1 ⟨h1, h2, h3⟩ => ⟨_, h1, h3, ?_⟩
  have s1 := h3.out.size
  have hb := (Below.refl w1.heap.size w1).alloc (Nat.le_refl _) (.cells #[.slice none 0 0] 45)
  have hs : (w1.alloc (.cells #[.slice none 0 0] 45)).heap.size = w1.heap.size + 1 := by simp
  refine ⟨fun k => w.heap.size ≤ k ∧ k < w1.heap.size, none, 0, ⟨h2.out.other (Turn.of_below hb) (fun k hk => ?_) (fun k hk => hk.1), fun k hk => by omega⟩, ⟨heap_new w1 _ _, ⟨fun i hi => absurd hi (Nat.not_lt_zero _), Nat.le_refl _, Or.inl ⟨rfl, rfl⟩⟩, fun b off e => by cases e⟩, fun e => by omega, fun b off e => (by cases e), fun k hk => ⟨fun e => by omega, by omega, by omega⟩⟩
  by_cases h5 : k < w.heap.size
  · exact Or.inl h5
  · right
    by_cases h6 : w1.heap.size ≤ k
    · exact h6
    · exact absurd ⟨Nat.le_of_not_lt h5, by omega⟩ hk.2
end Go.Proofs.Ytiaonfmdjipekaa.Ls
