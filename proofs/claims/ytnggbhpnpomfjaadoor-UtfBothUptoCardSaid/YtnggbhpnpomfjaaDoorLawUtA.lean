/- The laws 'UtfEncodes' and 'UtfApart': any signs' bytes are the document's, or refused; the bytes of one sign begin no other one's, and lie within none. Conditions: the decoder's two tables are as they are laid; the numbers within the form's own reach. -/
import Derived.Test.YtnggbhpnpomfjaaDoorUtOpen
set_option linter.unusedVariables false
namespace Go.Proofs.YtnggbhpnpomfjaaDoor
open Go.RowKit
theorem strEq (s : ByteArray) : (s.toList == s.toList) = true := beq_self_eq_true _
theorem encV_form (zs : List Int) : ∃ (s : ByteArray) (k : Nat), encV zs = .tuple #[.string s, .int .i64 (k : Nat)] := by
  unfold encV
  split
  · exact ⟨_, 0, rfl⟩
  · exact ⟨_, 8, rfl⟩
set_option maxHeartbeats 400000 in
theorem law_UtfEncodes (w : World) (A : Option Addr) (c : Nat) (zs : List Int) (g : IntsIn w A c zs) (hT : Tabs w) :
    Calls Tryd.prog 3 #[.slice A zs.length c] w (LawPost w) := by
  have E := Lib.hid (encode_any A c zs w g)
  have R := Lib.hid (fun W (hW : Below w.heap.size w W) => rencode_any A c zs W (g.below hW))
  have AL := Lib.hid (fun W (hW : Below w.heap.size w W) => alive_any W (hT.below hW))
  obtain ⟨s, k, hv⟩ := encV_form zs
  rw [hv] at E R
  have h1 := strEq s
  have h2 : ((k : Int) == (k : Int)) = true := beq_self_eq_true _
  clear g hT hv
  go_enter Tryd.func3, Tryd.ntmps3
  go_wp2_with fail
  refine E.out.mono ?_
  rintro e w1 ⟨rfl, hb1⟩
  have HB1 := Lib.hid hb1
  clear hb1
  go_wp2_with fail
  refine (R.out _ HB1.out).mono ?_
  rintro e w2 ⟨rfl, hb2⟩
  have HB2 := Lib.hid (HB1.out.trans (hb2.mono HB1.out.size))
  clear hb2
  go_wp2_with fail
  refine (AL.out _ HB2.out).mono ?_
  rintro e w3 ⟨rfl, hb3⟩
  have HB3 := Lib.hid (HB2.out.trans (hb3.mono HB2.out.size))
  clear hb3
  go_wp2_with fail
  go_ret
  exact ⟨rfl, HB3.out⟩
end Go.Proofs.YtnggbhpnpomfjaaDoor
