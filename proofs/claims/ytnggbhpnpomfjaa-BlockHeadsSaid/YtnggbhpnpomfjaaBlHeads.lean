/- The law 'BlockHeads': the style that any text tells, and what tells any style, is the document's. Conditions: none. -/
import Derived.Test.YtnggbhpnpomfjaaBlTakes
import Derived.Test.YtnggbhpnpomfjaaBlMarks
set_option linter.unusedVariables false
namespace Go.Proofs.Ytnggbhpnpomfjaa
open Go.RowKit
theorem head_some {l : List UInt8} {f : Bool} {c : Int} (h : headL l = some (f, c)) : ∃ j : Nat, j < 6 ∧ decide (3 ≤ j) = f ∧ ((j % 3 : Nat) : Int) = c := by
  unfold headL at h
  split at h
  · cases h; exact ⟨0, by decide, rfl, rfl⟩
  · cases h; exact ⟨1, by decide, rfl, rfl⟩
  · cases h; exact ⟨2, by decide, rfl, rfl⟩
  · cases h; exact ⟨3, by decide, rfl, rfl⟩
  · cases h; exact ⟨4, by decide, rfl, rfl⟩
  · cases h; exact ⟨5, by decide, rfl, rfl⟩
  · cases h
set_option maxRecDepth 100000 in
set_option maxHeartbeats 1600000 in
theorem rhead_any (s : ByteArray) (w : World) : Calls Try.prog 18 #[.string s] w fun e w' => e = .returned (headV s.data.toList) ∧ Below w.heap.size w w' := by
  have HR := Lib.hid (Kept.first w 28 #[.bool false, .int .i64 0])
  have MK := Lib.hid (fun f c W => rmark_any f c W)
  go_enter Try.func18, Try.ntmps18
  go_wp2_with fail
  go_loopw [4] (fun u wr => ∃ i : Nat, i ≤ 6 ∧ u = .int .i64 (i : Nat) ∧ Hid (∀ j : Nat, j < i → markL (decide (3 ≤ j)) ((j % 3 : Nat) : Int) ≠ s.data.toList) ∧ Hid (Kept w wr 28 #[.bool false, .int .i64 0])) (fun u _ => 6 - (intOf u).toNat)
  case atStart => exact ⟨0, by omega, rfl, (fun j h => by omega), HR.out⟩
  case round =>
    obtain ⟨i, hi, rfl, hno, hkp⟩ := hrel
    by_cases hlt : i < 6
    · have hlt' : (i : Int) < 6 := by omega
      have hltd : decide (i < 6) = true := decide_eq_true hlt
      obtain ⟨c, hc⟩ : ∃ c, i % 3 = c := ⟨_, rfl⟩
      have hc3 : c < 3 := by omega
      obtain ⟨f, hf⟩ : ∃ f, decide (3 ≤ i) = f := ⟨_, rfl⟩
      have hfi : decide ((3 : Int) ≤ (i : Int)) = f := by rw [← hf]; exact decide_eq_decide.2 (by omega)
      have hrem : Int.tmod (i : Int) 3 = (c : Int) := by rw [Int.tmod_eq_emod_of_nonneg (by omega)]; omega
      have HNX : Hid (markL f (c : Int) ≠ s.data.toList → ∀ j : Nat, j < i + 1 → markL (decide (3 ≤ j)) ((j % 3 : Nat) : Int) ≠ s.data.toList) := fun h j hj => by
        rcases Nat.lt_or_ge j i with h1 | h1
        · exact hno.out j h1
        · have : j = i := by omega
          subst this; rw [hf, hc]; exact h
      have HK0 := Lib.hid (Kept.first wr 28 #[.bool false, .int .i64 0])
      have HK1 := Lib.hid (HK0.out.set #[.bool f, .int .i64 (c : Nat)])
      have HW := Lib.hid (hkp.out.below HK1.out.2)
      have p0 := HK1.out.cell 0
      have p1 := HK1.out.cell 1
      have HC3 := Lib.hid hc3
      clear hno hc hkp hc3
      go_wp2_with (refine wpList_store_row rfl 28 _ _ rfl wr.heap.size #[.bool f, .int .i64 (c : Nat)] rfl rfl 28 _ HK0.out.1 (by kernel_rfl) rfl (style_one _ _) ?_)
      refine (MK.out _ _ _).mono ?_
      rintro e w2 ⟨rfl, hb2⟩
      have HK2 := Lib.hid (HK1.out.below hb2)
      have HW2 := Lib.hid (HW.out.below hb2)
      have r0 := HK2.out.cell 0
      have r1 := HK2.out.cell 1
      clear hb2 p0 p1
      obtain ⟨m, hm⟩ : ∃ m : ByteArray, m = ⟨(markL f (c : Int)).toArray⟩ := ⟨_, rfl⟩
      have hmd : m.data.toList = markL f (c : Int) := by rw [hm]
      rw [← hm]
      by_cases hq : markL f (c : Int) = s.data.toList
      · have hms : m = s := bl_str_ext (by rw [hmd, hq])
        subst hms
        have hs := strEq m
        have HV : Hid (headV m.data.toList = .tuple #[.agg #[.bool f, .int .i64 (c : Nat)], .bool true]) := by
          show _ = _
          unfold headV
          rw [hmd, mark_head f c HC3.out]
          rfl
        clear hq hm hmd hf
        go_wp2_with (refine wpList_store_row rfl 28 _ _ rfl w.heap.size #[.bool f, .int .i64 (c : Nat)] rfl rfl 28 _ HW2.out.1 (by kernel_rfl) rfl (style_one _ _) ?_)
        have HZ := HW2.out.set #[.bool f, .int .i64 (c : Nat)]
        have z0 := HZ.cell 0
        have z1 := HZ.cell 1
        refine bodyPost_ret (v := .tuple #[.agg #[.bool f, .int .i64 (c : Nat)], .bool true]) (by simp [results, Try.results18, go_sem, z0, z1]) rfl ⟨by rw [HV.out], HZ.2⟩
      · have hs : (m.toList == s.toList) = false := by
          rw [Lib.toList_data, Lib.toList_data, beq_eq_false_iff_ne]
          rw [hmd]; exact hq
        have HN := Lib.hid (HNX.out hq)
        clear hq hm hmd hf
        go_wp2_with fail
        go_roundw
        case rel => exact ⟨i + 1, by omega, by go_num, HN.out, HW2.out⟩
        case measure => simp [intOf]; omega
    · obtain rfl : i = 6 := by omega
      have HV : Hid (headV s.data.toList = .tuple #[.agg #[.bool false, .int .i64 0], .bool false]) := by
        show _ = _
        unfold headV
        cases h : headL s.data.toList with
        | none => rfl
        | some p =>
          obtain ⟨f, c⟩ := p
          obtain ⟨j, hj, h1, h2⟩ := head_some h
          have := hno.out j hj
          rw [h1, h2] at this
          exact absurd (head_mark h) this
      clear hno
      go_wp2_with (refine wpList_store_row rfl 28 _ _ rfl w.heap.size #[.bool false, .int .i64 0] rfl rfl 28 _ hkp.out.1 (by kernel_rfl) rfl (style_one _ _) ?_)
      have HZ := hkp.out.set #[.bool false, .int .i64 0]
      have z0 := HZ.cell 0
      have z1 := HZ.cell 1
      refine bodyPost_ret (v := .tuple #[.agg #[.bool false, .int .i64 0], .bool false]) (by simp [results, Try.results18, go_sem, z0, z1]) rfl ⟨by rw [HV.out], HZ.2⟩
/-- what the law's last statement reads -/
structure HeadsAt (a b c : Nat) (xf f : Bool) (xc ch : Int) (V : World) : Prop where
  a0 : V.cell? ⟨a, 0, none⟩ = some (.bool xf)
  a1 : V.cell? ⟨a, 1, none⟩ = some (.int .i64 xc)
  b0 : V.cell? ⟨b, 0, none⟩ = some (.bool xf)
  b1 : V.cell? ⟨b, 1, none⟩ = some (.int .i64 xc)
  c0 : V.cell? ⟨c, 0, none⟩ = some (.bool f)
  c1 : V.cell? ⟨c, 1, none⟩ = some (.int .i64 ch)
set_option maxRecDepth 100000 in
set_option maxHeartbeats 3200000 in
theorem law_BlockHeads (w : World) (s : ByteArray) (ws : s.size ≤ maxLen) (f : Bool) (c : Int) (hb : True) : Calls Try.prog 7 #[.string s, .agg #[.bool f, .int .i64 c]] w (LawPost w) := by
  have HK0 := Lib.hid (Kept.first w 28 #[.bool f, .int .i64 c])
  have H1 := Lib.hid (fun W => head_any s W)
  have H2 := Lib.hid (fun W => rhead_any s W)
  obtain ⟨xf, xc, is, e2⟩ : ∃ (xf : Bool) (xc : Int) (is : Bool), headV s.data.toList = .tuple #[.agg #[.bool xf, .int .i64 xc], .bool is] := by
    unfold headV
    split
    · exact ⟨_, _, true, rfl⟩
    · exact ⟨false, 0, false, rfl⟩
  rw [e2] at H1 H2
  have OU := Lib.hid (fun W => ours_any xf xc W)
  have TH := Lib.hid (fun W => theirs_any f c W)
  obtain ⟨m, hm⟩ : ∃ m : ByteArray, m = ⟨(markL f c).toArray⟩ := ⟨_, rfl⟩
  have MK := Lib.hid (fun W => mark_any f c W)
  have RM := Lib.hid (fun W => rmark_any f c W)
  rw [← hm] at MK RM
  have AL := Lib.hid (fun W => alive_any W)
  have q1 : (xf == xf) = true := beq_self_eq_true _
  have q2 : (xc == xc) = true := beq_self_eq_true _
  have q3 : (is == is) = true := beq_self_eq_true _
  have q4 := strEq m
  clear e2 hm
  go_enter Try.func7, Try.ntmps7
  go_wp2_with fail
  refine (H1.out _).mono ?_
  rintro e w2 ⟨rfl, hb2⟩
  have HA2 := Lib.hid (HK0.out.below hb2)
  have HL0 := Lib.hid (Kept.first w2 35 #[.bool false, .int .i64 0])
  have HL1 := Lib.hid (HL0.out.set #[.bool xf, .int .i64 xc])
  have HA3 := Lib.hid (HA2.out.below HL1.out.2)
  clear hb2
  go_wp2_with (refine wpList_store_row rfl 35 _ _ rfl w2.heap.size #[.bool xf, .int .i64 xc] rfl rfl 35 _ HL0.out.1 (by kernel_rfl) rfl (style_one _ _) ?_)
  generalize ((w2.alloc _).setRow _ _) = w3 at HL1 HA3 ⊢
  refine (H2.out _).mono ?_
  rintro e w4 ⟨rfl, hb4⟩
  have HA4 := Lib.hid (HA3.out.below hb4)
  have HL4 := Lib.hid (HL1.out.below hb4)
  have HM0 := Lib.hid (Kept.first w4 28 #[.bool false, .int .i64 0])
  have HM1 := Lib.hid (HM0.out.set #[.bool xf, .int .i64 xc])
  have HA5 := Lib.hid (HA4.out.below HM1.out.2)
  have HL5 := Lib.hid (HL4.out.below HM1.out.2)
  clear hb4
  go_wp2_with (refine wpList_store_row rfl 28 _ _ rfl w4.heap.size #[.bool xf, .int .i64 xc] rfl rfl 28 _ HM0.out.1 (by kernel_rfl) rfl (style_one _ _) ?_)
  generalize ((w4.alloc _).setRow _ _) = w5 at HM1 HA5 HL5 ⊢
  have g0 := HL5.out.cell 0
  have g1 := HL5.out.cell 1
  have g2 := HM1.out.cell 0
  have g3 := HM1.out.cell 1
  have g4 := HA5.out.cell 0
  have g5 := HA5.out.cell 1
  have la := bl_block_lt HL5.out.1
  have lb := bl_block_lt HM1.out.1
  have lc := bl_block_lt HA5.out.1
  have SB : ∀ V V' : World, Below V.heap.size V V' → (Below w5.heap.size w5 V ∧ V.cell? ⟨w2.heap.size, 0, none⟩ = some (.bool xf) ∧ V.cell? ⟨w2.heap.size, 1, none⟩ = some (.int .i64 xc) ∧ V.cell? ⟨w4.heap.size, 0, none⟩ = some (.bool xf) ∧ V.cell? ⟨w4.heap.size, 1, none⟩ = some (.int .i64 xc) ∧ V.cell? ⟨w.heap.size, 0, none⟩ = some (.bool f) ∧ V.cell? ⟨w.heap.size, 1, none⟩ = some (.int .i64 c)) →
      (Below w5.heap.size w5 V' ∧ V'.cell? ⟨w2.heap.size, 0, none⟩ = some (.bool xf) ∧ V'.cell? ⟨w2.heap.size, 1, none⟩ = some (.int .i64 xc) ∧ V'.cell? ⟨w4.heap.size, 0, none⟩ = some (.bool xf) ∧ V'.cell? ⟨w4.heap.size, 1, none⟩ = some (.int .i64 xc) ∧ V'.cell? ⟨w.heap.size, 0, none⟩ = some (.bool f) ∧ V'.cell? ⟨w.heap.size, 1, none⟩ = some (.int .i64 c)) := by
    rintro V V' hB ⟨h0, h1, h2, h3, h4, h5, h6⟩
    have hs := h0.size
    exact ⟨h0.trans (hB.mono h0.size), (hB.cell (p := ⟨w2.heap.size, 0, none⟩) (by simp; omega)).trans h1, (hB.cell (p := ⟨w2.heap.size, 1, none⟩) (by simp; omega)).trans h2, (hB.cell (p := ⟨w4.heap.size, 0, none⟩) (by simp; omega)).trans h3, (hB.cell (p := ⟨w4.heap.size, 1, none⟩) (by simp; omega)).trans h4, (hB.cell (p := ⟨w.heap.size, 0, none⟩) (by simp; omega)).trans h5, (hB.cell (p := ⟨w.heap.size, 1, none⟩) (by simp; omega)).trans h6⟩
  have SBH := Lib.hid SB
  clear SB
  have D0 : Hid (Below w5.heap.size w5 w5.drew ∧ w5.drew.cell? ⟨w2.heap.size, 0, none⟩ = some (.bool xf) ∧ w5.drew.cell? ⟨w2.heap.size, 1, none⟩ = some (.int .i64 xc) ∧ w5.drew.cell? ⟨w4.heap.size, 0, none⟩ = some (.bool xf) ∧ w5.drew.cell? ⟨w4.heap.size, 1, none⟩ = some (.int .i64 xc) ∧ w5.drew.cell? ⟨w.heap.size, 0, none⟩ = some (.bool f) ∧ w5.drew.cell? ⟨w.heap.size, 1, none⟩ = some (.int .i64 c)) :=
    ⟨(Below.refl _ _).drew, g0, g1, g2, g3, g4, g5⟩
  go_region_held3 (fun w' => Below w5.heap.size w5 w' ∧ w'.cell? ⟨w2.heap.size, 0, none⟩ = some (.bool xf) ∧ w'.cell? ⟨w2.heap.size, 1, none⟩ = some (.int .i64 xc) ∧ w'.cell? ⟨w4.heap.size, 0, none⟩ = some (.bool xf) ∧ w'.cell? ⟨w4.heap.size, 1, none⟩ = some (.int .i64 xc) ∧ w'.cell? ⟨w.heap.size, 0, none⟩ = some (.bool f) ∧ w'.cell? ⟨w.heap.size, 1, none⟩ = some (.int .i64 c))
    (first
      | exact D0.out
      | exact SBH.out _ _ (by assumption) (by assumption)
      | exact SBH.out _ _ (by assumption) ⟨by assumption, by assumption, by assumption, by assumption, by assumption, by assumption, by assumption⟩
      | exact SBH.out _ _ (by assumption) D0.out
      | assumption
      | go_keep)
    (first
      | (go_at_call 19; (with_reducible refine (OU.out _).mono ?_); rintro e wa ⟨rfl, hba⟩)
      | (go_at_call 15; (with_reducible refine (TH.out _).mono ?_); rintro e wb ⟨rfl, hbb⟩)
      | (go_at_call 20; (with_reducible refine (MK.out _).mono ?_); rintro e wc ⟨rfl, hbc⟩)
      | (go_at_call 21; (with_reducible refine (RM.out _).mono ?_); rintro e wd ⟨rfl, hbd⟩)
      | (go_at_call 12; (with_reducible refine (AL.out _).mono ?_); rintro e we ⟨rfl, hbe⟩)
      | fail)
  rename_i hh
  have HF : Hid (Below w.heap.size w we) := HA5.out.2.trans (hh.1.mono HA5.out.2.size)
  clear hh hba hbb hbc hbd hbe
  go_wp2_with fail
  go_ret
  exact ⟨rfl, HF.out⟩
end Go.Proofs.Ytnggbhpnpomfjaa
