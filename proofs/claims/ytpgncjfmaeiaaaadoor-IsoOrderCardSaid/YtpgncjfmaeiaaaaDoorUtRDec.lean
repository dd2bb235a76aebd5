/- Walks: the document's Decode, and whether two rows of numbers are the same. Conditions: as for the program's. -/
import Derived.Test.YtpgncjfmaeiaaaaDoorUtDec
set_option linter.unusedVariables false
namespace Go.Proofs.YtpgncjfmaeiaaaaDoor
open Go.RowKit
theorem walk_count_le {p : Int → Bool} {l : List UInt8} {acc : List Int} {k : Nat} (h : acc ++ (walkL p (l.drop k)).1 = (walkL p l).1) : acc.length ≤ (walkL p l).1.length := by
  have := congrArg List.length h
  rw [List.length_append] at this
  omega
set_option maxHeartbeats 1600000 in
theorem rdecode_text (s : ByteArray) (w : World) (hm : s.size ≤ 9223372036854775807) (hc : (walkL okB s.data.toList).1.length + 1 ≤ 17592186044416) :
    Calls Tryd.prog 48 #[.string s] w (DecPost s.data.toList w) := by
  obtain ⟨i0, hi, hz0, hz1, hz2⟩ := info_parts infoInt
  have HR := Lib.hid (Kept.first w 89 #[.int .i64 0, .int .i64 0])
  have HM := Lib.hid hm
  have HLN : Hid (s.data.toList.length = s.size) := rfl
  go_enter Tryd.func48, Tryd.ntmps48
  go_wp2_with fail
  go_loopw [4, 5] (fun u v wr => ∃ (k : Nat) (row : Value) (acc : List Int), k ≤ s.size ∧ row = u ∧ v = .int .i64 (k : Nat) ∧ Hid (Kept w wr 89 #[.int .i64 0, .int .i64 0]) ∧ Hid (wr.ownsRow w.heap.size 3 1 row acc.length (intCells acc)) ∧
    Hid (acc ++ (walkL okB (s.data.toList.drop k)).1 = (walkL okB s.data.toList).1) ∧ Hid (k + (walkL okB (s.data.toList.drop k)).2 = (walkL okB s.data.toList).2)) (fun _ v _ => s.size - (intOf v).toNat)
  case atStart => exact ⟨0, _, [], Nat.zero_le _, rfl, rfl, HR.out, nil_own _ _, rfl, by simp [Hid]⟩
  case round =>
    obtain ⟨k, row, acc, hk, rfl, rfl, hkp, hro, h1, h2⟩ := hrel
    by_cases hlt : k < s.size
    · have hlt' : (k : Int) < (s.size : Int) := by omega
      obtain ⟨t, r, n, hrs⟩ := rest_any s k hlt HM.out
      have hsl := hrs.slice
      have hp1 := hrs.pos
      have hp2 := hrs.le
      have hr1 := hrs.lo
      have hr2 := hrs.hi
      have FR := Lib.hid hrs.first
      have HY := Lib.hid (hrs.yes okB)
      have HN := Lib.hid (hrs.no okB)
      have hal := walk_count_le h1.out
      clear hrs
      go_wp2_with fail
      refine (FR.out _).mono ?_
      rintro e w1 ⟨rfl, hb1⟩
      have HK1 := Lib.hid (hkp.out.below hb1)
      have HO1 := Lib.hid (own_below hro.out hb1)
      clear hb1
      by_cases hr : r < 0
      · have hpf : Hid (okB r = false) := by show decide _ = _; rw [decide_eq_false_iff_not]; omega
        go_wp2_with (refine wpList_store_row rfl 89 _ _ rfl w.heap.size #[.int .i64 8, .int .i64 (k : Nat)] rfl rfl 89 _ HK1.out.1 (by kernel_rfl) rfl (two_one _ _) ?_)
        have HK3 := HK1.out.set #[.int .i64 8, .int .i64 (k : Nat)]
        have q0 := HK3.cell 0
        have q1 := HK3.cell 1
        have e2 : (walkL okB s.data.toList).2 = k := by rw [← h2.out, HN.out hpf.out, Nat.add_zero]
        have ed : decL s.data.toList = [] := by unfold decL; rw [HLN.out, if_neg (by omega)]
        have ef : faultV s.data.toList (walkL okB s.data.toList).2 = .agg #[.int .i64 8, .int .i64 (k : Nat)] := by rw [e2]; unfold faultV; rw [HLN.out, if_pos hlt]
        refine bodyPost_ret (v := .tuple #[.slice none 0 0, .agg #[.int .i64 8, .int .i64 (k : Nat)]]) (by simp [results, Tryd.results48, go_sem, q0, q1]) rfl ?_
        unfold DecPost
        rw [ed, ef]
        exact ⟨none, 0, rfl, nil_own _ _, HK3.2⟩
      · have hd : decide (r < 0) = false := by simpa using hr
        have hpt : Hid (okB r = true) := by show decide _ = _; rw [decide_eq_true_iff]; omega
        have HSZ := HK1.out.2.size
        go_wp2_with (at_builtin; refine wpList_append_own _ rfl _ _ 36 rfl w.heap.size 3 i0 (.int .i64 0) 1 8 Tryd.underlying36 hi hz0 hz1 hz2 rfl (by decide) row acc.length (intCells acc) rfl (own_below HO1.out ((Below.refl _ _).alloc (Nat.le_refl _) _)) ⟨w1.heap.size, 0, none⟩ 1 1 [.int .i64 r] rfl rfl ?c1 ?c2 ?c3 ?c4 ?c5 ?_)
        case c1 =>
          intro j u hj
          rcases j with _ | j
          · simp at hj; subst hj; rw [addr_add]; exact block_cell (heap_alloc_new _ _) 0
          · simp at hj
        case c2 => intro u hu; simp at hu; subst hu; rfl
        case c3 => unfold maxLen; omega
        case c4 => omega
        case c5 => simp; omega
        intro v' w2 hown hgrow _
        have hblt := block_lt HK1.out.1
        have HK2 : Hid (Kept w w2 89 #[.int .i64 0, .int .i64 0]) := by
          refine ⟨?_, (HK1.out.2.alloc HSZ _).grown hgrow (by simp; omega) (fun g hg => (HO1.out.lt g hg).1)⟩
          rw [hgrow.block _ (by simp; omega) (row_ne HO1.out HK1.out.1 (by decide))]
          exact (Below.heap_alloc w1 _ _ hblt).trans HK1.out.1
        have HO2 : Hid (w2.ownsRow w.heap.size 3 1 v' (acc ++ [r]).length (intCells (acc ++ [r]))) := by
          show World.ownsRow _ _ _ _ _ _ _
          rw [List.length_append]
          simpa [intCells] using hown
        clear hown hgrow
        go_wp2_with fail
        go_roundw
        case rel =>
          have hy := HY.out hpt.out
          refine ⟨k + n, v', acc ++ [r], by omega, rfl, by go_num, HK2.out, HO2.out, ?_, ?_⟩
          · show _ = _; rw [← h1.out, hy]; simp
          · show _ = _; rw [← h2.out, hy]; simp only; omega
        case measure => simp [intOf]; omega
    · obtain rfl : k = s.size := by omega
      have hd : s.data.toList.drop s.size = [] := List.drop_eq_nil_of_le (by rw [HLN.out]; exact Nat.le_refl _)
      have E1 : Hid (acc = (walkL okB s.data.toList).1) := by show _ = _; rw [← h1.out, hd]; simp [walkL_nil]
      have E2 : Hid (s.size = (walkL okB s.data.toList).2) := by show _ = _; rw [← h2.out, hd]; simp [walkL_nil]
      clear h1 h2 hd
      obtain ⟨A, c, rfl⟩ := own_len hro.out
      go_wp2_with (refine wpList_store_row rfl 89 _ _ rfl w.heap.size #[.int .i64 0, .int .i64 0] rfl rfl 89 _ hkp.out.1 (by kernel_rfl) rfl (two_one _ _) ?_)
      have HK3 := hkp.out.set #[.int .i64 0, .int .i64 0]
      have q0 := HK3.cell 0
      have q1 := HK3.cell 1
      have ed : decL s.data.toList = acc := by unfold decL; rw [HLN.out, ← E2.out, if_pos rfl, E1.out]
      have ef : faultV s.data.toList (walkL okB s.data.toList).2 = .agg #[.int .i64 0, .int .i64 0] := by rw [← E2.out]; unfold faultV; rw [HLN.out, if_neg (by omega)]
      refine bodyPost_ret (v := .tuple #[.slice A acc.length c, .agg #[.int .i64 0, .int .i64 0]]) (by simp [results, Tryd.results48, go_sem, q0, q1]) rfl ?_
      unfold DecPost
      rw [ed, ef]
      exact ⟨A, c, rfl, row_setRow hro.out hkp.out.1 (by decide) _, HK3.2⟩
end Go.Proofs.YtpgncjfmaeiaaaaDoor
