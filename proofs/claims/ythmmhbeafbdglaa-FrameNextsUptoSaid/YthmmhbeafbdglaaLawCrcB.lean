import Derived.Test.YthmmhbeafbdglaaLawCrcSums
import Derived.Test.YthmmhbeafbdglaaCrcJoin
namespace Go.Proofs.Ythmmhbeafbdglaa
open Go.RowKit
set_option maxHeartbeats 400000 in
theorem law_CrcAdds (w : World) (s : Nat) (hs : s < 4294967296) (A : Option Addr) (cap : Nat) (bs : List Nat) (g : BytesIn w A cap bs) :
    Calls Try.prog 4 #[.int .u32 s, .slice A bs.length cap] w (LawPost w) := by
  go_enter Try.func4, Try.ntmps4
  go_wp2_with fail
  refine (add_any _ _ _ _ _ hs g.bytes g.len g.at_).mono ?_
  rintro e w1 ⟨rfl, hb1⟩
  have g1 := g.below hb1
  go_wp2_with fail
  refine (radd_any _ _ _ _ _ hs g1.bytes g1.len g1.at_).mono ?_
  rintro e w2 ⟨rfl, rfl⟩
  have HB := Lib.hid hb1
  clear hb1
  go_wp2_with fail
  refine (calive_any _).mono ?_
  rintro e w3 ⟨rfl, hb3⟩
  have HB3 := Lib.hid (HB.out.trans (hb3.mono HB.out.size))
  clear hb3 HB
  go_wp2_with fail
  go_ret
  exact ⟨rfl, HB3.out⟩

set_option maxHeartbeats 400000 in
theorem law_CrcJoins (w : World) (a : Nat) (ha : a < 4294967296) (b : Nat) (hb : b < 4294967296) (l : Int) (hl : -9223372036854775808 ≤ l ∧ l ≤ 9223372036854775807) :
    Calls Try.prog 6 #[.int .u32 a, .int .u32 b, .int .i64 l] w (LawPost w) := by
  by_cases h : 100000 < l
  · go_enter Try.func6, Try.ntmps6
    go_wp2_with fail
    refine (calive_any _).mono ?_
    rintro e w3 ⟨rfl, hb3⟩
    have HB3 := Lib.hid hb3
    clear hb3
    go_wp2_with fail
    go_ret
    exact ⟨rfl, HB3.out⟩
  · go_enter Try.func6, Try.ntmps6
    go_wp2_with fail
    refine (joined_any _ _ _ _ ha hb hl.2).mono ?_
    rintro e w1 ⟨rfl, rfl⟩
    go_wp2_with fail
    refine (rjoined_any _ _ _ _ ha hb hl.2).mono ?_
    rintro e w1 ⟨rfl, rfl⟩
    go_wp2_with fail
    refine (calive_any _).mono ?_
    rintro e w3 ⟨rfl, hb3⟩
    have HB3 := Lib.hid hb3
    clear hb3
    go_wp2_with fail
    go_ret
    exact ⟨rfl, HB3.out⟩
end Go.Proofs.Ythmmhbeafbdglaa
