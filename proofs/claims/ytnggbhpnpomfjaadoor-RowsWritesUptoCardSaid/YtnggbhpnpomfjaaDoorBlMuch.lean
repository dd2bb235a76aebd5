/- Walks: are lines too many; the law 'BlockFolds': any lines, folded, are the document's. Conditions: a line is no longer than the model's bound. -/
import Derived.Test.YtnggbhpnpomfjaaDoorBlAlive
set_option linter.unusedVariables false
namespace Go.Proofs.YtnggbhpnpomfjaaDoor.Bl
open Go.RowKit
def LawPost (w : World) (e : Ending) (w' : World) : Prop := e = .returned (.bool true) ∧ Below w.heap.size w w'
def muchB (ss : List ByteArray) : Bool := decide (1000 < ss.length) || decide (20000 < bulkL ((lns ss).take 1000))
theorem much_false {ss : List ByteArray} (h : muchB ss = false) : ss.length ≤ 1000 ∧ bulkL (lns ss) ≤ 20000 := by
  unfold muchB at h
  simp only [Bool.or_eq_false_iff, decide_eq_false_iff_not] at h
  rw [List.take_of_length_le (by rw [lns_length]; omega)] at h
  omega
theorem bulk_each {ss : List ByteArray} (hz : ∀ s ∈ ss, s.size ≤ 140737488355328) : ∀ k, k ≤ ss.length → bulkL ((lns ss).take k) ≤ k * 140737488355328
  | 0, _ => by simp [bulkL]
  | k + 1, h => by
    have ih := bulk_each hz k (by omega)
    have h1 := bulk_take (lns ss) k (by rw [lns_length]; omega)
    rw [lns_at ss k (by omega), bl_size] at h1
    have h2 := hz (ss.getD k ByteArray.empty) (by rw [List.getD_eq_getElem?_getD, List.getElem?_eq_getElem (by omega)]; exact List.getElem_mem _)
    omega
set_option maxHeartbeats 800000 in
theorem much_any (A : Option Addr) (c : Nat) (ss : List ByteArray) (w : World) (g : StrsIn w A c ss) (hz : ∀ s ∈ ss, s.size ≤ 140737488355328) :
    Calls Tryd.prog 53 #[.slice A ss.length c] w fun e w' => e = .returned (.bool (muchB ss)) ∧ w = w' := by
  have G := Lib.hid g
  have HZ := Lib.hid hz
  obtain ⟨m, hm⟩ : ∃ m, min ss.length 1000 = m := ⟨_, rfl⟩
  have hmn : min (ss.length : Int) 1000 = (m : Int) := by omega
  have hml : m ≤ ss.length := by omega
  have hmk : m ≤ 1000 := by omega
  have hsl : ∀ W, (Instr.sliceAt 48 (.slice A ss.length c) none (some (.int .i64 (m : Int))) none).run Tryd.prog W = .ok (.slice A m c) W := fun W => strs_to A _ c m (by have := g.cap; omega) W
  have HT : Hid ((lns ss).take m = (lns ss).take 1000) := by
    show _ = _
    rcases Nat.lt_or_ge 1000 ss.length with h | h
    · rw [show m = 1000 by omega]
    · rw [List.take_of_length_le (by rw [lns_length]; omega), List.take_of_length_le (by rw [lns_length]; omega)]
  clear g hz hm
  go_enter Tryd.func53, Tryd.ntmps53
  go_wp2_with fail
  go_loop [3, 12] (fun u v => ∃ k : Nat, k ≤ m ∧ u = .int .i64 (bulkL ((lns ss).take k) : Nat) ∧ v = .int .i64 (k : Nat)) (fun _ v => m - (intOf v).toNat)
  case atStart => exact ⟨0, Nat.zero_le _, rfl, rfl⟩
  case round =>
    obtain ⟨k, hk, rfl, rfl⟩ := hrel
    have hb1 := bulk_each HZ.out k (by omega)
    by_cases hlt : k < m
    · have hlt' : (k : Int) < (m : Int) := by omega
      obtain ⟨b, off, hA, hbl, hc⟩ := G.out.at_ k (by omega)
      have hb2 := bulk_take (lns ss) k (by rw [lns_length]; omega)
      rw [lns_at ss k (by omega), bl_size] at hb2
      have hz2 := HZ.out (ss.getD k ByteArray.empty) (by rw [List.getD_eq_getElem?_getD, List.getElem?_eq_getElem (by omega)]; exact List.getElem_mem _)
      generalize ss.getD k ByteArray.empty = s at hc hb2 hz2
      generalize bulkL ((lns ss).take k) = B at hb1 hb2 ⊢
      have HB2 := Lib.hid hb2
      clear hb2
      subst hA
      go_wp2_with fail
      go_round
      case rel => exact ⟨k + 1, by omega, by rw [HB2.out]; go_num, by go_num⟩
      case measure => simp [intOf]; omega
    · obtain rfl : m = k := by omega
      have HM : Hid (muchB ss = (decide (1000 < ss.length) || decide (20000 < bulkL ((lns ss).take m)))) := by show _ = _; unfold muchB; rw [HT.out]
      generalize bulkL ((lns ss).take m) = B at hb1 HM ⊢
      by_cases h1 : 1000 < ss.length
      · have h1' : decide (1000 < ss.length) = true := decide_eq_true h1
        have HV : Hid (muchB ss = true) := by show _ = _; rw [HM.out, h1']; rfl
        clear HT
        go_wp2_with fail
        go_ret
        exact ⟨by rw [HV.out]; rfl, rfl⟩
      · have h1' : decide (1000 < ss.length) = false := decide_eq_false h1
        have HV : Hid (muchB ss = decide (20000 < B)) := by show _ = _; rw [HM.out, h1']; rfl
        clear HT
        have HVI : Hid (muchB ss = (decide ((1000 : Int) < (ss.length : Int)) || decide ((20000 : Int) < (B : Int)))) := by
          show _ = _
          rw [HM.out]
          congr 1 <;> exact decide_eq_decide.2 (by omega)
        go_wp2_with fail
        go_ret
        exact ⟨by rw [HVI.out]; rfl, rfl⟩
end Go.Proofs.YtnggbhpnpomfjaaDoor.Bl
