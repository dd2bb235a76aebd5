/- Walks: the document's Check and Count. Conditions: strings within the model's bounds. -/
import Derived.Test.YtnggbhpnpomfjaaDoorUtChk
set_option linter.unusedVariables false
namespace Go.Proofs.YtnggbhpnpomfjaaDoor
open Go.RowKit
theorem rprint_is (n : Int) (b : Bool) (hb : printB n = b) (w : World) : Calls Tryd.prog 23 #[.int .i64 n] w fun e w' => e = .returned (.bool b) ∧ w = w' := by subst hb; exact rprintable_any n w
/-- what a round of a loop over a text, sign by sign, needs -/
structure Rest (s : ByteArray) (k : Nat) (t : ByteArray) (r : Int) (n : Nat) : Prop where
  slice : ∀ W, (Instr.sliceAt 9 (.string s) (some (.int .i64 (k : Int))) none none).run Tryd.prog W = .ok (.string t) W
  first : ∀ W, Calls Tryd.prog 31 #[.string t] W fun e w' => e = .returned (.tuple #[.int .i64 r, .int .i64 (n : Nat)]) ∧ Below W.heap.size W w'
  pos : 1 ≤ n
  le : k + n ≤ s.size
  lo : -1 ≤ r
  hi : r ≤ 1114111
  yes : ∀ p : Int → Bool, p r = true → walkL p (s.data.toList.drop k) = (r :: (walkL p (s.data.toList.drop (k + n))).1, n + (walkL p (s.data.toList.drop (k + n))).2)
  no : ∀ p : Int → Bool, p r = false → walkL p (s.data.toList.drop k) = ([], 0)
theorem rest_any (s : ByteArray) (k : Nat) (hk : k < s.size) (hm : s.size ≤ 9223372036854775807) : ∃ t r n, Rest s k t r n := by
  have HLN : s.data.toList.length = s.size := rfl
  have hne : s.data.toList.drop k ≠ [] := by
    intro e
    have := congrArg List.length e
    rw [List.length_drop, HLN] at this
    simp at this; omega
  have hpos := firstL_pos hne
  have hrg := firstL_range (l := s.data.toList.drop k)
  have hs := slice_str s k (by omega) hm
  have htl : (s.extract k s.size).data.toList = s.data.toList.drop k := by rw [Lib.extract_to_end]
  have hts : (s.extract k s.size).size ≤ 9223372036854775807 := by
    have : (s.extract k s.size).data.toList.length = s.size - k := by rw [htl, List.length_drop, HLN]
    have e : (s.extract k s.size).size = (s.extract k s.size).data.toList.length := rfl
    omega
  rw [List.length_drop, HLN] at hpos
  refine ⟨s.extract k s.size, (firstL (s.data.toList.drop k)).1, (firstL (s.data.toList.drop k)).2, hs, fun W => ?_, hpos.1, by omega, hrg.1, hrg.2, fun p hp => ?_, fun p hp => walkL_no hp⟩
  · have := rfirst_any (s.extract k s.size) W hts
    rw [htl] at this
    exact this
  · rw [walkL_yes hne hp, List.drop_drop]
set_option maxHeartbeats 1600000 in
theorem rcheck_text (s : ByteArray) (w : World) (hm : s.size ≤ 9223372036854775807) :
    Calls Tryd.prog 25 #[.string s] w fun e w' => e = .returned (faultV s.data.toList (walkL printB s.data.toList).2) ∧ Below w.heap.size w w' := by
  have HR := Lib.hid (Kept.first w 33 #[.int .i64 0, .int .i64 0])
  have HM := Lib.hid hm
  have HLN : Hid (s.data.toList.length = s.size) := rfl
  go_enter Tryd.func25, Tryd.ntmps25
  go_wp2_with fail
  go_loopw [3] (fun v wr => ∃ k : Nat, k ≤ s.size ∧ v = .int .i64 (k : Nat) ∧ Hid (Kept w wr 33 #[.int .i64 0, .int .i64 0]) ∧ Hid (k + (walkL printB (s.data.toList.drop k)).2 = (walkL printB s.data.toList).2)) (fun v _ => s.size - (intOf v).toNat)
  case atStart => exact ⟨0, Nat.zero_le _, rfl, HR.out, by simp [Hid]⟩
  case round =>
    obtain ⟨k, hk, rfl, hkp, h2⟩ := hrel
    by_cases hlt : k < s.size
    · have hlt' : (k : Int) < (s.size : Int) := by omega
      obtain ⟨t, r, n, hrs⟩ := rest_any s k hlt HM.out
      have hsl := hrs.slice
      have hp1 := hrs.pos
      have hp2 := hrs.le
      have hr1 := hrs.lo
      have hr2 := hrs.hi
      have FR := Lib.hid hrs.first
      have HY := Lib.hid (hrs.yes printB)
      have HN := Lib.hid (hrs.no printB)
      clear hrs
      go_wp2_with fail
      refine (FR.out _).mono ?_
      rintro e w1 ⟨rfl, hb1⟩
      have HK1 := Lib.hid (hkp.out.below hb1)
      clear hb1
      by_cases hr : r < 0
      · have hpf : Hid (printB r = false) := by
          show _ = _
          cases h : printB r with
          | false => rfl
          | true => have := printB_pos h; omega
        have hd : decide (r < 0) = true := decide_eq_true hr
        go_wp2_with (refine wpList_store_row rfl 33 _ _ rfl w.heap.size #[.int .i64 8, .int .i64 (k : Nat)] rfl rfl 33 _ HK1.out.1 (by kernel_rfl) rfl (two_one _ _) ?_)
        have HK3 := HK1.out.set #[.int .i64 8, .int .i64 (k : Nat)]
        have q0 := HK3.cell 0
        have q1 := HK3.cell 1
        have e2 : (walkL printB s.data.toList).2 = k := by rw [← h2.out, HN.out hpf.out, Nat.add_zero]
        exact bodyPost_ret (v := .agg #[.int .i64 8, .int .i64 (k : Nat)]) (by simp [results, Tryd.results25, go_sem, q0, q1]) rfl ⟨by rw [e2]; unfold faultV; rw [HLN.out, if_pos hlt], HK3.2⟩
      · have hd : decide (r < 0) = false := by simpa using hr
        obtain ⟨q, hq⟩ : ∃ q, printB r = q := ⟨_, rfl⟩
        have PR := Lib.hid (rprint_is r q hq w1)
        have HQ := Lib.hid hq
        clear hq
        go_wp2_with fail
        refine PR.out.mono ?_
        rintro e w2 ⟨rfl, rfl⟩
        cases q with
        | true =>
          go_wp2_with fail
          go_roundw
          case rel => exact ⟨k + n, by omega, by go_num, HK1.out, by show _ = _; rw [← h2.out, HY.out HQ.out]; simp only; omega⟩
          case measure => simp [intOf]; omega
        | false =>
          go_wp2_with (refine wpList_store_row rfl 33 _ _ rfl w.heap.size #[.int .i64 8, .int .i64 (k : Nat)] rfl rfl 33 _ HK1.out.1 (by kernel_rfl) rfl (two_one _ _) ?_)
          have HK3 := HK1.out.set #[.int .i64 8, .int .i64 (k : Nat)]
          have q0 := HK3.cell 0
          have q1 := HK3.cell 1
          have e2 : (walkL printB s.data.toList).2 = k := by rw [← h2.out, HN.out HQ.out, Nat.add_zero]
          exact bodyPost_ret (v := .agg #[.int .i64 8, .int .i64 (k : Nat)]) (by simp [results, Tryd.results25, go_sem, q0, q1]) rfl ⟨by rw [e2]; unfold faultV; rw [HLN.out, if_pos hlt], HK3.2⟩
    · obtain rfl : k = s.size := by omega
      have hd : s.data.toList.drop s.size = [] := List.drop_eq_nil_of_le (by rw [HLN.out]; exact Nat.le_refl _)
      have E2 : Hid (s.size = (walkL printB s.data.toList).2) := by show _ = _; rw [← h2.out, hd]; simp [walkL_nil]
      clear h2 hd
      go_wp2_with (refine wpList_store_row rfl 33 _ _ rfl w.heap.size #[.int .i64 0, .int .i64 0] rfl rfl 33 _ hkp.out.1 (by kernel_rfl) rfl (two_one _ _) ?_)
      have HK3 := hkp.out.set #[.int .i64 0, .int .i64 0]
      have q0 := HK3.cell 0
      have q1 := HK3.cell 1
      exact bodyPost_ret (v := .agg #[.int .i64 0, .int .i64 0]) (by simp [results, Tryd.results25, go_sem, q0, q1]) rfl ⟨by rw [← E2.out]; unfold faultV; rw [HLN.out, if_neg (by omega)], HK3.2⟩
set_option maxHeartbeats 800000 in
theorem rcount_text (s : ByteArray) (w : World) (hm : s.size ≤ 9223372036854775807) :
    Calls Tryd.prog 27 #[.string s] w fun e w' => e = .returned (.int .i64 ((walkL allB s.data.toList).1.length : Nat)) ∧ Below w.heap.size w w' := by
  have HM := Lib.hid hm
  have HLN : Hid (s.data.toList.length = s.size) := rfl
  go_enter Tryd.func27, Tryd.ntmps27
  go_wp2_with fail
  go_loopw [3, 4] (fun u v wr => ∃ k c : Nat, k ≤ s.size ∧ c ≤ k ∧ u = .int .i64 (c : Nat) ∧ v = .int .i64 (k : Nat) ∧ Hid (Below w.heap.size w wr) ∧ Hid (c + (walkL allB (s.data.toList.drop k)).1.length = (walkL allB s.data.toList).1.length)) (fun _ v _ => s.size - (intOf v).toNat)
  case atStart => exact ⟨0, 0, Nat.zero_le _, Nat.le_refl _, rfl, rfl, Below.refl _ _, by simp [Hid]⟩
  case round =>
    obtain ⟨k, c, hk, hc, rfl, rfl, hb, h2⟩ := hrel
    by_cases hlt : k < s.size
    · have hlt' : (k : Int) < (s.size : Int) := by omega
      obtain ⟨t, r, n, hrs⟩ := rest_any s k hlt HM.out
      have hsl := hrs.slice
      have hp1 := hrs.pos
      have hp2 := hrs.le
      have FR := Lib.hid hrs.first
      have HY := Lib.hid (hrs.yes allB rfl)
      clear hrs
      go_wp2_with fail
      refine (FR.out _).mono ?_
      rintro e w1 ⟨rfl, hb1⟩
      have HB1 := Lib.hid (hb.out.trans (hb1.mono hb.out.size))
      clear hb1
      go_wp2_with fail
      go_roundw
      case rel => exact ⟨k + n, c + 1, by omega, by omega, by go_num, by go_num, HB1.out, by show _ = _; rw [← h2.out, HY.out]; simp only [List.length_cons]; omega⟩
      case measure => simp [intOf]; omega
    · obtain rfl : k = s.size := by omega
      have hd : s.data.toList.drop s.size = [] := List.drop_eq_nil_of_le (by rw [HLN.out]; exact Nat.le_refl _)
      have E2 : Hid (c = (walkL allB s.data.toList).1.length) := by show _ = _; rw [← h2.out, hd]; simp [walkL_nil]
      clear h2 hd
      go_wp2_with fail
      go_ret
      exact ⟨by rw [← E2.out]; rfl, hb.out⟩
end Go.Proofs.YtnggbhpnpomfjaaDoor
