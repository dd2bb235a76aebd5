import Derived.Test.YthmmhbeafbdglaaCrcAlive
import Derived.Test.YthmmhbeafbdglaaOpen
namespace Go.Proofs.Ythmmhbeafbdglaa
open Go.RowKit
def LawPost (w : World) (e : Ending) (w' : World) : Prop := e = .returned (.bool true) ∧ Below w.heap.size w w'
theorem PartsAt.below {w w' : World} {A : Option Addr} {ps : List Part} (h : PartsAt w A ps) (hb : Below w.heap.size w w') : PartsAt w' A ps := by
  rcases h with h | ⟨b, off, h1, h2, h3⟩
  · exact Or.inl h
  · exact Or.inr ⟨b, off, h1, Nat.lt_of_lt_of_le h2 hb.size, fun i hi => (hb.cell (p := ⟨b, off + i, none⟩) h2).trans (h3 i hi)⟩
set_option maxHeartbeats 400000 in
theorem law_CrcSums (w : World) (A : Option Addr) (cap : Nat) (ps : List Part) (g : PartsAt w A ps ∧ (∀ p ∈ ps, PartOk w p) ∧ ps.length ≤ cap ∧ cap ≤ maxLen) :
    Calls Try.prog 3 #[.slice A ps.length cap] w (LawPost w) := by
  go_enter Try.func3, Try.ntmps3
  go_wp2_with fail
  refine (sum_any _ _ _ _ (by have := g.2.2; unfold maxLen at this; omega) g.1 g.2.1).mono ?_
  rintro e w1 ⟨rfl, hb1⟩
  go_wp2_with fail
  refine (rsum_any _ _ _ _ (by have := g.2.2; unfold maxLen at this; omega) (g.1.below hb1) (fun p hp => (g.2.1 p hp).below hb1)).mono ?_
  rintro e w2 ⟨rfl, rfl⟩
  have HB := Lib.hid hb1
  clear hb1
  go_wp2_with fail
  refine (calive_any _).mono ?_
  rintro e w3 ⟨rfl, hb3⟩
  have HB3 := Lib.hid (HB.out.trans (hb3.mono HB.out.size))
  clear hb3 HB
  go_wp2_with fail
  go_ret
  exact ⟨rfl, HB3.out⟩
end Go.Proofs.Ythmmhbeafbdglaa
