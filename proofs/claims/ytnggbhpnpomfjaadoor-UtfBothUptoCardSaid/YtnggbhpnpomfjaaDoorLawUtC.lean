/- The law 'UtfPrints': which signs are printable, where any text has one that is not, and how many there are, is told as the document says. Conditions: the decoder's two tables are as they are laid. -/
import Derived.Test.YtnggbhpnpomfjaaDoorLawUtA
import Derived.Test.YtnggbhpnpomfjaaDoorUtRChk
set_option linter.unusedVariables false
namespace Go.Proofs.YtnggbhpnpomfjaaDoor
open Go.RowKit
theorem faultV_form (l : List UInt8) (k : Nat) : ∃ x y : Int, faultV l k = .agg #[.int .i64 x, .int .i64 y] := by
  unfold faultV; split
  · exact ⟨8, _, rfl⟩
  · exact ⟨0, 0, rfl⟩
set_option maxHeartbeats 800000 in
theorem law_UtfPrints (w : World) (s : ByteArray) (z : s.size ≤ 140737488351232) (n : Int) (hn : -9223372036854775808 ≤ n ∧ n ≤ 9223372036854775807) (hT : Tabs w) :
    Calls Tryd.prog 5 #[.string s, .int .i64 n] w (LawPost w) := by
  have hm : s.size ≤ 9223372036854775807 := by omega
  have P1 := Lib.hid (printable_any n w)
  have P2 := Lib.hid (rprintable_any n w)
  have C1 := Lib.hid (fun W (hW : Below w.heap.size w W) => check_text s W (hT.below hW) hm)
  have C2 := Lib.hid (fun W (hW : Below w.heap.size w W) => rcheck_text s W hm)
  have K1 := Lib.hid (fun W (hW : Below w.heap.size w W) => count_text s W (hT.below hW) hm)
  have K2 := Lib.hid (fun W (hW : Below w.heap.size w W) => rcount_text s W hm)
  have AL := Lib.hid (fun W (hW : Below w.heap.size w W) => alive_any W (hT.below hW))
  obtain ⟨x, y, hv⟩ := faultV_form s.data.toList (walkL printB s.data.toList).2
  rw [hv] at C1 C2
  generalize (walkL allB s.data.toList).1.length = c at K1 K2
  generalize printB n = b at P1 P2
  have e1 : (b == b) = true := beq_self_eq_true _
  have e2 : (x == x) = true := beq_self_eq_true _
  have e3 : (y == y) = true := beq_self_eq_true _
  have e4 : ((c : Int) == (c : Int)) = true := beq_self_eq_true _
  clear hT hv
  go_enter Tryd.func5, Tryd.ntmps5
  go_wp2_with fail
  refine P1.out.mono ?_
  rintro e w1 ⟨rfl, rfl⟩
  go_wp2_with fail
  refine P2.out.mono ?_
  rintro e w1 ⟨rfl, rfl⟩
  go_wp2_with fail
  refine (C1.out _ (Below.refl _ _)).mono ?_
  rintro e w1 ⟨rfl, hb1⟩
  have HB1 := Lib.hid hb1
  clear hb1
  go_wp2_with fail
  refine (C2.out _ HB1.out).mono ?_
  rintro e w2 ⟨rfl, hb2⟩
  have HB2 := Lib.hid (HB1.out.trans (hb2.mono HB1.out.size))
  clear hb2
  go_wp2_with fail
  refine (K1.out _ HB2.out).mono ?_
  rintro e w3 ⟨rfl, hb3⟩
  have HB3 := Lib.hid (HB2.out.trans (hb3.mono HB2.out.size))
  clear hb3
  go_wp2_with fail
  refine (K2.out _ HB3.out).mono ?_
  rintro e w4 ⟨rfl, hb4⟩
  have HB4 := Lib.hid (HB3.out.trans (hb4.mono HB3.out.size))
  clear hb4
  go_wp2_with fail
  refine (AL.out _ HB4.out).mono ?_
  rintro e w5 ⟨rfl, hb5⟩
  have HB5 := Lib.hid (HB4.out.trans (hb5.mono HB4.out.size))
  clear hb5
  go_wp2_with fail
  go_ret
  exact ⟨rfl, HB5.out⟩
end Go.Proofs.YtnggbhpnpomfjaaDoor
