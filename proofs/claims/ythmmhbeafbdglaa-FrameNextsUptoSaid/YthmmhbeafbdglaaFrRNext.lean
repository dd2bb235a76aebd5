import Derived.Test.YthmmhbeafbdglaaFrTurnSaid
import Derived.Test.YthmmhbeafbdglaaLawFrPuts
import Derived.BigQuiet
namespace Go.Proofs.Ythmmhbeafbdglaa
open Go.RowKit
set_option maxHeartbeats 400000 in
theorem value_any (A : Option Addr) (cap : Nat) (bs : List Nat) (w : World) (g : BytesIn w A cap bs) (hl : bs.length ≤ 8) :
    Calls Try.prog 47 #[.slice A bs.length cap] w fun e w' => e = .returned (.int .u64 (valB bs : Nat)) ∧ w = w' := by
  go_enter Try.func47, Try.ntmps47
  go_wp2_with fail
  go_loop [3, 4] (fun x i => ∃ k : Nat, k ≤ bs.length ∧ i = .int .i64 k ∧ x = .int .u64 (valB (bs.take k) : Nat)) (fun _ i => bs.length - (intOf i).toNat)
  case atStart => exact ⟨0, Nat.zero_le _, rfl, rfl⟩
  case round =>
    obtain ⟨k, hk, rfl, rfl⟩ := hrel
    by_cases hlt : k < bs.length
    · have HS := Lib.hid (valB_take bs k hlt)
      have hcb := g.bytes.getD k
      obtain ⟨b, off, rfl, _, hc⟩ := bytes_cell g.at_ hlt
      have hm := valB_lt56 (bs.take k) (g.bytes.take k) (by simp; omega)
      clear g
      generalize bs.getD k 0 = c at HS hcb hc
      generalize valB (bs.take k) = m at HS hm ⊢
      have HM : Hid (m * 256 + c = valB (bs.take (k + 1))) := HS.out.symm
      have hw : IntKind.u64.wrap ((m : Int) * 256) = ((m * 256 : Nat) : Int) := by
        have : ((m : Int) * 256) = ((m * 256 : Nat) : Int) := by omega
        rw [this]
        exact IntWalk.u64_in _ ⟨by omega, by omega⟩
      have hw2 : ((m : Int) * 256) = ((m * 256 : Nat) : Int) := by omega
      have hw3 : IntKind.u64.wrap (((m * 256 : Nat) : Int) + (c : Int)) = ((m * 256 + c : Nat) : Int) := by
        rw [show (((m * 256 : Nat) : Int) + (c : Int)) = ((m * 256 + c : Nat) : Int) by omega]
        exact IntWalk.u64_in _ ⟨by omega, by omega⟩
      have hwc : IntKind.u64.wrap (c : Int) = (c : Int) := IntWalk.u64_in _ ⟨by omega, by omega⟩
      generalize m * 256 + c = r at hw3 HM
      generalize m * 256 = q at hw hw2 hw3
      go_wp2
      go_round
      case rel => exact ⟨k + 1, by omega, by go_num, by rw [← HM.out]⟩
      case measure => simp [intOf]; omega
    · obtain rfl : k = bs.length := by omega
      rw [List.take_length]
      go_wp2
      go_ret
      exact ⟨rfl, rfl⟩
theorem begins_all {bs : List Nat} {k : Nat} (h : bs.take k = yrec.take k) (hk : k = bs.length ∧ k ≤ 4 ∨ k = 4 ∧ k ≤ bs.length) : bs.take 4 = yrec.take bs.length := by
  rcases hk with ⟨rfl, h4⟩ | ⟨rfl, h4⟩
  · rw [← h, List.take_of_length_le h4, List.take_length]
  · rw [h, List.take_of_length_le (show yrec.length ≤ 4 from Nat.le_refl 4), List.take_of_length_le (show yrec.length ≤ bs.length from h4)]
theorem begins_not {bs : List Nat} {k : Nat} (hk : k < 4) (hl : k < bs.length) (h : bs.getD k 0 ≠ yrec.getD k 0) : bs.take 4 ≠ yrec.take bs.length := by
  intro e
  have e2 := congrArg (fun l => l[k]?) e
  simp only [List.getElem?_take, if_pos hk, if_pos hl] at e2
  exact h (by rw [List.getD_eq_getElem?_getD, List.getD_eq_getElem?_getD, e2])
def YrecStr : ByteArray := { data := #[89, 82, 69, 67] }
set_option maxHeartbeats 400000 in
theorem begins_any (A : Option Addr) (cap : Nat) (bs : List Nat) (w : World) (g : BytesIn w A cap bs) :
    Calls Try.prog 46 #[.slice A bs.length cap] w fun e w' => e = .returned (.bool (decide (bs.take 4 = yrec.take bs.length))) ∧ ∃ m, w' = w.drewN m := by
  go_enter Try.func46, Try.ntmps46
  go_wp2_with fail
  go_loopw [4] (fun i wr => ∃ k : Nat, k ≤ bs.length ∧ k ≤ 4 ∧ i = .int .i64 k ∧ Hid (bs.take k = yrec.take k) ∧ ∃ m, wr = w.drewN m) (fun i _ => 4 - (intOf i).toNat)
  case atStart => exact ⟨0, Nat.zero_le _, Nat.zero_le _, rfl, rfl, 0, rfl⟩
  case round =>
    obtain ⟨k, hk, hk4, rfl, hr, m0, rfl⟩ := hrel
    by_cases hlt : k < bs.length
    · by_cases h4 : k < 4
      · obtain ⟨b, off, rfl, _, hc⟩ := bytes_cell g.at_ hlt
        have hcw : (w.drewN m0).cell? ⟨b, off + k, none⟩ = some (.int .u8 (bs.getD k 0 : Nat)) := hc
        by_cases hm : bs.getD k 0 = yrec.getD k 0
        · rw [hm] at hc hcw
          have HR : Hid (bs.take (k + 1) = yrec.take (k + 1)) := by
            show bs.take (k + 1) = yrec.take (k + 1)
            rw [take_snoc bs k 0 hlt, take_snoc yrec k 0 (show k < yrec.length from h4), hr.out, hm]
          clear hm hr
          obtain rfl | rfl | rfl | rfl : k = 0 ∨ k = 1 ∨ k = 2 ∨ k = 3 := by omega
          all_goals
            simp only [show yrec.getD 0 0 = 89 from rfl, show yrec.getD 1 0 = 82 from rfl, show yrec.getD 2 0 = 69 from rfl, show yrec.getD 3 0 = 67 from rfl, Nat.add_zero] at hc hcw
            go_wp2_with fail
            go_quiet (fail)
            go_wp2_with fail
            go_roundw
            case rel => first | exact ⟨1, by omega, by omega, rfl, HR, _, rfl⟩ | exact ⟨2, by omega, by omega, rfl, HR, _, rfl⟩ | exact ⟨3, by omega, by omega, rfl, HR, _, rfl⟩ | exact ⟨4, by omega, by omega, rfl, HR, _, rfl⟩
            case measure => simp [intOf]
        · have hno := begins_not h4 hlt hm
          have HNO : Hid (decide (bs.take 4 = yrec.take bs.length) = false) := decide_eq_false hno
          clear hr hno
          generalize bs.getD k 0 = c at hm hc hcw
          obtain rfl | rfl | rfl | rfl : k = 0 ∨ k = 1 ∨ k = 2 ∨ k = 3 := by omega
          all_goals
            simp only [show yrec.getD 0 0 = 89 from rfl, show yrec.getD 1 0 = 82 from rfl, show yrec.getD 2 0 = 69 from rfl, show yrec.getD 3 0 = 67 from rfl, Nat.add_zero] at hc hcw hm
            go_wp2_with fail
            go_quiet (fail)
            go_wp2_with fail
            all_goals first
              | (rename_i hx; exact absurd (Int.ofNat.inj (bne_eq_false_iff_eq.1 hx)) hm)
              | (go_ret; rw [HNO.out]; exact ⟨rfl, m0 + nq, World.drewN_drewN ..⟩)
      · obtain rfl : k = 4 := by omega
        have hy := begins_all hr.out (Or.inr ⟨rfl, hk⟩)
        have HY : Hid (decide (bs.take 4 = yrec.take bs.length) = true) := decide_eq_true hy
        clear hy hr
        go_wp2_with fail
        go_ret
        rw [HY.out]
        exact ⟨rfl, m0, rfl⟩
    · obtain rfl : k = bs.length := by omega
      have hy := begins_all hr.out (Or.inl ⟨rfl, hk4⟩)
      have HY : Hid (decide (bs.take 4 = yrec.take bs.length) = true) := decide_eq_true hy
      clear hy hr
      go_wp2_with fail
      go_ret
      rw [HY.out]
      exact ⟨rfl, m0, rfl⟩
end Go.Proofs.Ythmmhbeafbdglaa
