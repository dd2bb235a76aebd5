/- Walks: the same texts; a style as the document's (seat D). Conditions: the rows are no longer than 10^6. -/
import Derived.Test.YtnggbhpnpomfjaaDoorBlLay
set_option linter.unusedVariables false
namespace Go.Proofs.YtnggbhpnpomfjaaDoor.Bl
open Go.RowKit
theorem strEq (s : ByteArray) : (s.toList == s.toList) = true := beq_self_eq_true _
set_option maxHeartbeats 800000 in
theorem texts_same (A A' : Option Addr) (c c' : Nat) (ss : List ByteArray) (w : World) (g : StrsIn w A c ss) (g' : StrsIn w A' c' ss) (hl : ss.length ≤ 1000000) :
    Calls Tryd.prog 36 #[.slice A ss.length c, .slice A' ss.length c'] w fun e w' => e = .returned (.bool true) ∧ Below w.heap.size w w' := by
  have hbn : ((ss.length : Int) != (ss.length : Int)) = false := by simp
  have G := Lib.hid g
  have G' := Lib.hid g'
  clear g g'
  go_enter Tryd.func36, Tryd.ntmps36
  go_wp2_with fail
  go_loopw [5] (fun i wr => ∃ k : Nat, k ≤ ss.length ∧ i = .int .i64 (k : Nat) ∧ ∃ n, wr = w.drewN n) (fun i _ => ss.length - (intOf i).toNat)
  case atStart => exact ⟨0, Nat.zero_le _, rfl, 0, rfl⟩
  case round =>
    obtain ⟨k, hk, rfl, n, rfl⟩ := hrel
    by_cases hlt : k < ss.length
    · obtain ⟨b, off, hA, hbl, hc0⟩ := G.out.at_ k hlt
      obtain ⟨b', off', hA', hbl', hc1⟩ := G'.out.at_ k hlt
      subst hA hA'
      generalize ss.getD k ByteArray.empty = x at hc0 hc1
      have hq := strEq x
      have h1 : (0 : Int) ≤ (k : Int) := by omega
      have h2 : (k : Int) < (ss.length : Int) := by omega
      go_wp2_with fail
      go_quiet (fail)
      go_wp2_with fail
      go_roundw
      case rel => exact ⟨k + 1, by omega, by go_num, _, rfl⟩
      case measure => simp [intOf]; omega
    · obtain rfl : ss.length = k := by omega
      go_wp2_with fail
      go_ret
      exact ⟨rfl, bl_dr (Below.refl _ _) _⟩
end Go.Proofs.YtnggbhpnpomfjaaDoor.Bl
