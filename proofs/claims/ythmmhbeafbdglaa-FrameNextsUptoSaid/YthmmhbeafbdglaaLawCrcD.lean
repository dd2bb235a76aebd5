import Derived.Test.YthmmhbeafbdglaaLawCrcC
namespace Go.Proofs.Ythmmhbeafbdglaa
open Go.RowKit
set_option maxHeartbeats 1000000 in
theorem law_CrcRow (w : World) (A : Option Addr) (ca : Nat) (a : List Nat) (ga : BytesIn w A ca a) (la : a.length ≤ 140737488351232)
    (B : Option Addr) (cb : Nat) (b : List Nat) (gb : BytesIn w B cb b) (lb : b.length ≤ 140737488351232)
    (C : Option Addr) (cc : Nat) (c : List Nat) (gc : BytesIn w C cc c) (lc : c.length ≤ 140737488351232) :
    Calls Try.prog 8 #[.slice A a.length ca, .slice B b.length cb, .slice C c.length cc] w (LawPost w) := by
  have gbc : AllBytes (b ++ c) := fun d hd => by rcases List.mem_append.1 hd with h | h; exact gb.bytes d h; exact gc.bytes d h
  obtain ⟨S, HS⟩ : ∃ S, Hid (sumL [a, b, c] = S) := ⟨_, rfl⟩
  have Hx : Hid (sumL [a] = more 0 a) := rfl
  have Hy : Hid (sumL [b] = more 0 b) := rfl
  have Hz : Hid (sumL [c] = more 0 c) := rfl
  have H1 : Hid (joined (more 0 a) (more 0 b) (b.length : Nat) = more (more 0 a) b) := joined_more _ b (more_lt 0 a) gb.bytes
  have H2 : Hid (joined (more (more 0 a) b) (more 0 c) (c.length : Nat) = S) := by
    show joined (more (more 0 a) b) (more 0 c) (c.length : Nat) = S
    rw [joined_more _ c (more_lt _ b) gc.bytes, ← HS.out, sum_eq3]
  have H3 : Hid (joined (more 0 b) (more 0 c) (c.length : Nat) = more 0 (b ++ c)) := by
    show joined (more 0 b) (more 0 c) (c.length : Nat) = more 0 (b ++ c)
    rw [joined_more _ c (more_lt 0 b) gc.bytes, more_append 0 b c gb.bytes]
  have H4 : Hid (joined (more 0 a) (more 0 (b ++ c)) ((b.length : Int) + (c.length : Int)) = S) := by
    show joined (more 0 a) (more 0 (b ++ c)) ((b.length : Int) + (c.length : Int)) = S
    have e : ((b.length : Int) + (c.length : Int)) = (((b ++ c).length : Nat) : Int) := by simp
    rw [e, joined_more _ (b ++ c) (more_lt 0 a) gbc, ← more_append _ b c gb.bytes, ← HS.out, sum_eq3]
  have lx := more_lt 0 a
  have ly := more_lt 0 b
  have lz := more_lt 0 c
  have lxy := more_lt (more 0 a) b
  have lyz := more_lt 0 (b ++ c)
  generalize more (more 0 a) b = XY at H1 H2 lxy
  generalize more 0 (b ++ c) = YZ at H3 H4 lyz
  generalize more 0 a = X at Hx H1 H4 lx
  generalize more 0 b = Y at Hy H1 H3 ly
  generalize more 0 c = Z at Hz H2 H3 lz
  clear gbc
  go_enter Try.func8, Try.ntmps8
  go_wp2_with fail
  refine (sum_one A ca a w ga).mono ?_
  rintro e w1 ⟨rfl, hb⟩
  rw [Hx.out]
  have B1 := Lib.hid hb
  clear hb
  go_wp2_with fail
  refine (sum_one B cb b w1 (gb.below B1.out)).mono ?_
  rintro e w2 ⟨rfl, hb⟩
  rw [Hy.out]
  have B2 := Lib.hid (B1.out.trans (hb.mono B1.out.size))
  clear hb
  go_wp2_with fail
  refine (sum_one C cc c w2 (gc.below B2.out)).mono ?_
  rintro e w3 ⟨rfl, hb⟩
  rw [Hz.out]
  have B3 := Lib.hid (B2.out.trans (hb.mono B2.out.size))
  clear hb
  go_wp2_with fail
  refine (joined_any _ _ _ _ lx ly (by omega)).mono ?_
  rintro e w7 ⟨rfl, rfl⟩
  rw [H1.out]
  go_wp2_with fail
  refine (joined_any _ _ _ _ lxy lz (by omega)).mono ?_
  rintro e w7 ⟨rfl, rfl⟩
  rw [H2.out]
  go_wp2_with fail
  refine (joined_any _ _ _ _ ly lz (by omega)).mono ?_
  rintro e w7 ⟨rfl, rfl⟩
  rw [H3.out]
  go_wp2_with fail
  refine (joined_any _ _ _ _ lx lyz (by omega)).mono ?_
  rintro e w7 ⟨rfl, rfl⟩
  rw [H4.out]
  go_wp2_with fail
  refine (sum_three A ca a B cb b C cc c w3 (ga.below B3.out) (gb.below B3.out) (gc.below B3.out)).mono ?_
  rintro e w4 ⟨rfl, hb⟩
  rw [HS.out]
  have B4 := Lib.hid (B3.out.trans (hb.mono B3.out.size))
  clear hb
  go_wp2_with fail
  refine (calive_any _).mono ?_
  rintro e w8 ⟨rfl, hb⟩
  have B8 := Lib.hid (B4.out.trans (hb.mono B4.out.size))
  clear hb
  go_wp2_with fail
  go_ret
  exact ⟨rfl, B8.out⟩
end Go.Proofs.Ythmmhbeafbdglaa
