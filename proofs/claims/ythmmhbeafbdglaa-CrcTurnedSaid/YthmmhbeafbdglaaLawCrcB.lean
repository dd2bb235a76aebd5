import Derived.Test.YthmmhbeafbdglaaLawCrcSums
import Derived.Test.YthmmhbeafbdglaaCrcJoin
namespace Go.Proofs.Ythmmhbeafbdglaa
open Go.RowKit
/-- bytes that came in, as the frame hands them over -/
structure BytesIn (w : World) (A : Option Addr) (cap : Nat) (bs : List Nat) : Prop where
  bytes : AllBytes bs
  at_ : BytesAt w A bs
  cap : bs.length ≤ cap
  len : bs.length ≤ 9223372036854775807
theorem BytesIn.of {w : World} {A : Option Addr} {cap : Nat} {bs : List Nat} {p : Prop} (g : AllBytes bs ∧ BytesAt w A bs ∧ bs.length ≤ cap ∧ cap ≤ maxLen ∧ p) : BytesIn w A cap bs :=
  ⟨g.1, g.2.1, g.2.2.1, by have := g.2.2.1; have := g.2.2.2.1; unfold maxLen at *; omega⟩
theorem BytesIn.below {w w' : World} {A : Option Addr} {cap : Nat} {bs : List Nat} (g : BytesIn w A cap bs) (hb : Below w.heap.size w w') : BytesIn w' A cap bs := ⟨g.bytes, g.at_.below hb, g.cap, g.len⟩
theorem BytesIn.part {w : World} {A : Option Addr} {cap : Nat} {bs : List Nat} (g : BytesIn w A cap bs) : PartOk w ⟨A, cap, bs⟩ := ⟨g.bytes, g.len, g.at_⟩

set_option maxHeartbeats 400000 in
theorem law_CrcAdds (w : World) (s : Nat) (hs : s < 4294967296) (A : Option Addr) (cap : Nat) (bs : List Nat) {p : Prop} (g : AllBytes bs ∧ BytesAt w A bs ∧ bs.length ≤ cap ∧ cap ≤ maxLen ∧ p) :
    Calls Try.prog 4 #[.int .u32 s, .slice A bs.length cap] w (LawPost w) := by
  have g := BytesIn.of g
  go_enter Try.func4, Try.ntmps4
  go_wp2_with fail
  refine (add_any _ _ _ _ _ hs g.bytes g.len g.at_).mono ?_
  rintro e w1 ⟨rfl, hb1⟩
  have g1 := g.below hb1
  go_wp2_with fail
  refine (radd_any _ _ _ _ _ hs g1.bytes g1.len g1.at_).mono ?_
  rintro e w2 ⟨rfl, rfl⟩
  have HB := Lib.hid hb1
  clear hb1
  go_wp2_with fail
  refine (calive_any _).mono ?_
  rintro e w3 ⟨rfl, hb3⟩
  have HB3 := Lib.hid (HB.out.trans (hb3.mono HB.out.size))
  clear hb3 HB
  go_wp2_with fail
  go_ret
  exact ⟨rfl, HB3.out⟩

set_option maxHeartbeats 400000 in
theorem law_CrcJoins (w : World) (a : Nat) (ha : a < 4294967296) (b : Nat) (hb : b < 4294967296) (l : Int) (hl : -9223372036854775808 ≤ l ∧ l ≤ 9223372036854775807) :
    Calls Try.prog 6 #[.int .u32 a, .int .u32 b, .int .i64 l] w (LawPost w) := by
  by_cases h : 100000 < l
  · go_enter Try.func6, Try.ntmps6
    go_wp2_with fail
    refine (calive_any _).mono ?_
    rintro e w3 ⟨rfl, hb3⟩
    have HB3 := Lib.hid hb3
    clear hb3
    go_wp2_with fail
    go_ret
    exact ⟨rfl, HB3.out⟩
  · go_enter Try.func6, Try.ntmps6
    go_wp2_with fail
    refine (joined_any _ _ _ _ ha hb hl.2).mono ?_
    rintro e w1 ⟨rfl, rfl⟩
    go_wp2_with fail
    refine (rjoined_any _ _ _ _ ha hb hl.2).mono ?_
    rintro e w1 ⟨rfl, rfl⟩
    go_wp2_with fail
    refine (calive_any _).mono ?_
    rintro e w3 ⟨rfl, hb3⟩
    have HB3 := Lib.hid hb3
    clear hb3
    go_wp2_with fail
    go_ret
    exact ⟨rfl, HB3.out⟩
end Go.Proofs.Ythmmhbeafbdglaa
