/- What each statement asks besides: two lists of themselves are equal, but not like; one is the same as itself. Conditions: the library's variables as they are laid. -/
import Derived.Test.YtpgncjfmaeiaaaaDoorIsList
set_option linter.unusedVariables false
namespace Go.Proofs.YtpgncjfmaeiaaaaDoor.Is
open Go.RowKit
def IsList (n : Nat) (g : Gv) : Prop := g.root = 0 ∧ g.ns.length = n ∧ ∀ i, i < n → ∃ k e, g.ns.getD i nd0 = ⟨5, ⟨#[]⟩, [(((i : Int) + 1) % n)], k, e⟩
theorem list1 {g : Gv} (h : IsList 1 g) : ∃ A c k e, g = ⟨A, c, [⟨5, ⟨#[]⟩, [0], k, e⟩], 0⟩ := by
  obtain ⟨A, c, ns, root⟩ := g
  obtain ⟨h1, h2, h3⟩ := h
  simp only at h1 h2 h3
  subst h1
  obtain ⟨k, e, h4⟩ := h3 0 (by omega)
  match ns, h2, h4 with
  | [a], _, h4 =>
    have h5 : a = ⟨5, ⟨#[]⟩, [0], k, e⟩ := h4
    exact ⟨A, c, k, e, by rw [h5]⟩
theorem list2 {g : Gv} (h : IsList 2 g) : ∃ A c k1 e1 k2 e2, g = ⟨A, c, [⟨5, ⟨#[]⟩, [1], k1, e1⟩, ⟨5, ⟨#[]⟩, [0], k2, e2⟩], 0⟩ := by
  obtain ⟨A, c, ns, root⟩ := g
  obtain ⟨h1, h2, h3⟩ := h
  simp only at h1 h2 h3
  subst h1
  obtain ⟨k1, e1, h4⟩ := h3 0 (by omega)
  obtain ⟨k2, e2, h5⟩ := h3 1 (by omega)
  match ns, h2, h4, h5 with
  | [a, b], _, h4, h5 =>
    have h6 : a = ⟨5, ⟨#[]⟩, [1], k1, e1⟩ := h4
    have h7 : b = ⟨5, ⟨#[]⟩, [0], k2, e2⟩ := h5
    exact ⟨A, c, k1, e1, k2, e2, by rw [h6, h7]⟩
theorem small1 {g : Gv} (h : IsList 1 g) : SmallG g.ns := by
  obtain ⟨A, c, k, e, rfl⟩ := list1 h
  intro _ m hm
  obtain rfl := List.mem_singleton.1 hm
  exact ⟨Nat.zero_le 1000000, (by show 1 ≤ 1000000; omega)⟩
theorem small2 {g : Gv} (h : IsList 2 g) : SmallG g.ns := by
  obtain ⟨A, c, k1, e1, k2, e2, rfl⟩ := list2 h
  intro _ m hm
  simp only [List.mem_cons, List.not_mem_nil, or_false] at hm
  rcases hm with rfl | rfl
  · exact ⟨Nat.zero_le 1000000, (by show 1 ≤ 1000000; omega)⟩
  · exact ⟨Nat.zero_le 1000000, (by show 1 ≤ 1000000; omega)⟩
theorem tell12e {a b : Gv} (ha : IsList 1 a) (hb : IsList 2 b) : tellR a b false false = (true, 0) := by
  obtain ⟨A, c, k, e, rfl⟩ := list1 ha
  obtain ⟨A', c', k1, e1, k2, e2, rfl⟩ := list2 hb
  kernel_rfl
theorem tell12l {a b : Gv} (ha : IsList 1 a) (hb : IsList 2 b) : tellR a b false true = (false, 0) := by
  obtain ⟨A, c, k, e, rfl⟩ := list1 ha
  obtain ⟨A', c', k1, e1, k2, e2, rfl⟩ := list2 hb
  kernel_rfl
theorem tell22i {a b : Gv} (ha : IsList 2 a) (hb : IsList 2 b) : tellR a b true true = (true, 0) := by
  obtain ⟨A, c, k1, e1, k2, e2, rfl⟩ := list2 ha
  obtain ⟨A', c', k3, e3, k4, e4, rfl⟩ := list2 hb
  kernel_rfl
set_option maxRecDepth 100000 in
set_option maxHeartbeats 3200000 in
theorem alive_any (w : World) (E : Env w) : Calls Tryd.prog 8 #[] w (BoolPost true w) := by
  have L1 : Hid (∀ V, Calls Tryd.prog 19 #[.int .i64 1] V (ListPost 1 V)) := fun V => list_any 1 (by omega) (by omega) V
  have L2 : Hid (∀ V, Calls Tryd.prog 19 #[.int .i64 2] V (ListPost 2 V)) := fun V => list_any 2 (by omega) (by omega) V
  have EQ : Hid (∀ V a b, Below w.heap.size w V → GrIn V a → GrIn V b → IsList 1 a → IsList 2 b → Calls Tryd.prog 9 #[a.val, b.val] V (TellPost (true, 0) V)) := fun V a b hV Ga Gb ha hb => by
    have h9 := equal_any a b V (E.below hV) Ga Gb (small1 ha) (small2 hb)
    rw [tell12e ha hb] at h9
    exact h9
  have LK : Hid (∀ V a b, Below w.heap.size w V → GrIn V a → GrIn V b → IsList 1 a → IsList 2 b → Calls Tryd.prog 11 #[a.val, b.val] V (TellPost (false, 0) V)) := fun V a b hV Ga Gb ha hb => by
    have h9 := like_any a b V (E.below hV) Ga Gb (small1 ha) (small2 hb)
    rw [tell12l ha hb] at h9
    exact h9
  have IS : Hid (∀ V a b, Below w.heap.size w V → GrIn V a → GrIn V b → IsList 2 a → IsList 2 b → Calls Tryd.prog 13 #[a.val, b.val] V (TellPost (true, 0) V)) := fun V a b hV Ga Gb ha hb => by
    have h9 := iso_any a b V (E.below hV) Ga Gb (small2 ha) (small2 hb)
    rw [tell22i ha hb] at h9
    exact h9
  clear E
  go_enter Tryd.func8, Tryd.ntmps8
  go_wp2_with fail
  with_reducible refine (L1.out _).mono ?_
  rintro e w1 ⟨g1, rfl, G1, B1, R1⟩
  have D1 := Lib.hid B1
  clear B1
  go_wp2_with fail
  with_reducible refine (L2.out _).mono ?_
  rintro e w2 ⟨g2, rfl, G2, B2, R2⟩
  have D2 : Hid (Below w.heap.size w w2) := D1.out.trans (B2.mono D1.out.size)
  have E1 := Lib.hid (EQ.out w2 g1 g2 D2.out (G1.below B2) G2 R1 R2)
  clear G1 G2 B2 R1 R2 D1
  go_wp2_with (go_at_call 9; (with_reducible refine E1.out.mono ?_); rintro e w3 ⟨rfl, B3⟩)
  have D3 : Hid (Below w.heap.size w w3) := D2.out.trans (B3.mono D2.out.size)
  clear B3 E1 D2
  with_reducible refine (L1.out _).mono ?_
  rintro e w4 ⟨g4, rfl, G4, B4, R4⟩
  have D4 : Hid (Below w.heap.size w w4) := D3.out.trans (B4.mono D3.out.size)
  clear B4 D3
  go_wp2_with fail
  with_reducible refine (L2.out _).mono ?_
  rintro e w5 ⟨g5, rfl, G5, B5, R5⟩
  have D5 : Hid (Below w.heap.size w w5) := D4.out.trans (B5.mono D4.out.size)
  have E2 := Lib.hid (LK.out w5 g4 g5 D5.out (G4.below B5) G5 R4 R5)
  clear G4 G5 B5 R4 R5 D4
  go_wp2_with (go_at_call 11; (with_reducible refine E2.out.mono ?_); rintro e w6 ⟨rfl, B6⟩)
  have D6 : Hid (Below w.heap.size w w6) := D5.out.trans (B6.mono D5.out.size)
  clear B6 E2 D5
  with_reducible refine (L2.out _).mono ?_
  rintro e w7 ⟨g7, rfl, G7, B7, R7⟩
  have D7 : Hid (Below w.heap.size w w7) := D6.out.trans (B7.mono D6.out.size)
  clear B7 D6
  go_wp2_with fail
  with_reducible refine (L2.out _).mono ?_
  rintro e w8 ⟨g8, rfl, G8, B8, R8⟩
  have D8 : Hid (Below w.heap.size w w8) := D7.out.trans (B8.mono D7.out.size)
  have E3 := Lib.hid (IS.out w8 g7 g8 D8.out (G7.below B8) G8 R7 R8)
  clear G7 G8 B8 R7 R8 D7
  go_wp2_with (go_at_call 13; (with_reducible refine E3.out.mono ?_); rintro e w9 ⟨rfl, B9⟩)
  go_ret
  exact ⟨rfl, D8.out.trans (B9.mono D8.out.size)⟩
end Go.Proofs.YtpgncjfmaeiaaaaDoor.Is
