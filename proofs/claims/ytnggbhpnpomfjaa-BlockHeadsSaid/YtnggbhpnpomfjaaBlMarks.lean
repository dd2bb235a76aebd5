/- The law 'BlockMarks': each style is told by a mark of its own, and no other text tells one. Conditions: none. -/
import Derived.Test.YtnggbhpnpomfjaaBlMark
import Derived.Test.YtnggbhpnpomfjaaBlOpen
set_option linter.unusedVariables false
namespace Go.Proofs.Ytnggbhpnpomfjaa
open Go.RowKit
theorem head_mark {l : List UInt8} {f : Bool} {c : Int} (h : headL l = some (f, c)) : markL f c = l := by
  unfold headL at h
  split at h
  all_goals first | cases h; rfl | cases h
theorem mark_head (f : Bool) (c : Nat) (hc : c < 3) : headL (markL f (c : Int)) = some (f, (c : Int)) := by
  obtain rfl | rfl | rfl : c = 0 ∨ c = 1 ∨ c = 2 := by omega
  all_goals cases f <;> rfl
theorem mark_len (f : Bool) (c : Int) : (markL f c).length ≤ 2 := by
  unfold markL
  split <;> split <;> (try split) <;> simp
theorem bl_str_ext {a b : ByteArray} (h : a.data.toList = b.data.toList) : a = b := by
  cases a; cases b
  congr 1
  exact Array.toList_inj.1 h
set_option maxRecDepth 100000 in
set_option maxHeartbeats 1600000 in
theorem law_BlockMarks (w : World) (s : ByteArray) (ws : s.size ≤ maxLen) (f : Bool) (n : Nat) (hn : n < 256) : Calls Try.prog 8 #[.string s, .bool f, .int .u8 (n : Nat)] w (LawPost w) := by
  obtain ⟨c, hc⟩ : ∃ c, n % 3 = c := ⟨_, rfl⟩
  have hc3 : c < 3 := by omega
  have hrem : Int.tmod (n : Int) 3 = (c : Int) := by rw [Int.tmod_eq_emod_of_nonneg (by omega)]; omega
  have hwr : IntKind.i64.wrap (n : Int) = (n : Int) := by rw [IntKind.wrap_i64]; omega
  have MK := Lib.hid (fun W => mark_any f (c : Int) W)
  obtain ⟨m, hm⟩ : ∃ m : ByteArray, m = ⟨(markL f (c : Int)).toArray⟩ := ⟨_, rfl⟩
  have hml : m.size ≤ 2 := by rw [hm]; exact mark_len f c
  have hmd : m.data.toList = markL f (c : Int) := by rw [hm]
  rw [← hm] at MK
  have H1 := Lib.hid (fun W => head_any m W)
  have e1 : headV m.data.toList = .tuple #[.agg #[.bool f, .int .i64 (c : Nat)], .bool true] := by unfold headV; rw [hmd, mark_head f c hc3]; rfl
  rw [e1] at H1
  have H2 := Lib.hid (fun W => head_any s W)
  have AL := Lib.hid (fun W => alive_any W)
  obtain ⟨xf, xc, is, e2, e3⟩ : ∃ (xf : Bool) (xc : Int) (is : Bool), headV s.data.toList = .tuple #[.agg #[.bool xf, .int .i64 xc], .bool is] ∧ ((is = true ∧ markL xf xc = s.data.toList) ∨ (is = false ∧ xf = false ∧ xc = 0)) := by
    unfold headV
    cases h : headL s.data.toList with
    | none => exact ⟨false, 0, false, rfl, Or.inr ⟨rfl, rfl, rfl⟩⟩
    | some p => exact ⟨p.1, p.2, true, rfl, Or.inl ⟨rfl, head_mark h⟩⟩
  rw [e2] at H2
  have q1 : (f == f) = true := beq_self_eq_true _
  have q2 : ((c : Int) == (c : Int)) = true := beq_self_eq_true _
  have hs := strEq s
  clear hc hm hmd e1 e2
  rcases e3 with ⟨rfl, e3⟩ | ⟨rfl, rfl, rfl⟩
  · have MX := Lib.hid (fun W => mark_any xf xc W)
    rw [show (⟨(markL xf xc).toArray⟩ : ByteArray) = s from bl_str_ext (by rw [← e3])] at MX
    clear e3
    have q3 : (xf == xf) = true := beq_self_eq_true _
    have q4 : (xc == xc) = true := beq_self_eq_true _
    go_enter Try.func8, Try.ntmps8
    have HK0 := Lib.hid (Kept.first w 35 #[.bool false, .int .i64 0])
    have HK1 := Lib.hid (HK0.out.set #[.bool f, .int .i64 (c : Nat)])
    have p0 := HK1.out.cell 0
    have p1 := HK1.out.cell 1
    go_wp2_with (refine wpList_store_row rfl 35 _ _ rfl w.heap.size #[.bool f, .int .i64 (c : Nat)] rfl rfl 35 _ HK0.out.1 (by kernel_rfl) rfl (style_one _ _) ?_)
    refine (MK.out _).mono ?_
    rintro e w1 ⟨rfl, hb1⟩
    have HA1 := Lib.hid (HK1.out.below hb1)
    clear hb1 p0 p1
    go_wp2_with fail
    refine (H1.out _).mono ?_
    rintro e w2 ⟨rfl, hb2⟩
    have HA2 := Lib.hid (HA1.out.below hb2)
    have HL0 := Lib.hid (Kept.first w2 35 #[.bool false, .int .i64 0])
    have HL1 := Lib.hid (HL0.out.set #[.bool f, .int .i64 (c : Nat)])
    have HA3 := Lib.hid (HA2.out.below HL1.out.2)
    clear hb2
    go_wp2_with (refine wpList_store_row rfl 35 _ _ rfl w2.heap.size #[.bool f, .int .i64 (c : Nat)] rfl rfl 35 _ HL0.out.1 (by kernel_rfl) rfl (style_one _ _) ?_)
    generalize ((w2.alloc _).setRow _ _) = w3 at HL1 HA3 ⊢
    refine (H2.out _).mono ?_
    rintro e w4 ⟨rfl, hb4⟩
    have HA4 := Lib.hid (HA3.out.below hb4)
    have HL4 := Lib.hid (HL1.out.below hb4)
    have HM0 := Lib.hid (Kept.first w4 35 #[.bool false, .int .i64 0])
    have HM1 := Lib.hid (HM0.out.set #[.bool xf, .int .i64 xc])
    have HA5 := Lib.hid (HA4.out.below HM1.out.2)
    have HL5 := Lib.hid (HL4.out.below HM1.out.2)
    have p0 := HA5.out.cell 0
    have p1 := HA5.out.cell 1
    have p2 := HL5.out.cell 0
    have p3 := HL5.out.cell 1
    have p4 := HM1.out.cell 0
    have p5 := HM1.out.cell 1
    clear hb4
    go_wp2_with (refine wpList_store_row rfl 35 _ _ rfl w4.heap.size #[.bool xf, .int .i64 xc] rfl rfl 35 _ HM0.out.1 (by kernel_rfl) rfl (style_one _ _) ?_)
    refine (MX.out _).mono ?_
    rintro e w6 ⟨rfl, hb6⟩
    have HA6 := Lib.hid (HA5.out.below hb6)
    clear hb6
    go_wp2_with fail
    refine (AL.out _).mono ?_
    rintro e w7 ⟨rfl, hb7⟩
    have HA7 := Lib.hid (HA6.out.below hb7)
    clear hb7
    go_wp2_with fail
    go_ret
    exact ⟨rfl, HA7.out.2⟩
  · skip
    go_enter Try.func8, Try.ntmps8
    have HK0 := Lib.hid (Kept.first w 35 #[.bool false, .int .i64 0])
    have HK1 := Lib.hid (HK0.out.set #[.bool f, .int .i64 (c : Nat)])
    have p0 := HK1.out.cell 0
    have p1 := HK1.out.cell 1
    go_wp2_with (refine wpList_store_row rfl 35 _ _ rfl w.heap.size #[.bool f, .int .i64 (c : Nat)] rfl rfl 35 _ HK0.out.1 (by kernel_rfl) rfl (style_one _ _) ?_)
    refine (MK.out _).mono ?_
    rintro e w1 ⟨rfl, hb1⟩
    have HA1 := Lib.hid (HK1.out.below hb1)
    clear hb1 p0 p1
    go_wp2_with fail
    refine (H1.out _).mono ?_
    rintro e w2 ⟨rfl, hb2⟩
    have HA2 := Lib.hid (HA1.out.below hb2)
    have HL0 := Lib.hid (Kept.first w2 35 #[.bool false, .int .i64 0])
    have HL1 := Lib.hid (HL0.out.set #[.bool f, .int .i64 (c : Nat)])
    have HA3 := Lib.hid (HA2.out.below HL1.out.2)
    clear hb2
    go_wp2_with (refine wpList_store_row rfl 35 _ _ rfl w2.heap.size #[.bool f, .int .i64 (c : Nat)] rfl rfl 35 _ HL0.out.1 (by kernel_rfl) rfl (style_one _ _) ?_)
    generalize ((w2.alloc _).setRow _ _) = w3 at HL1 HA3 ⊢
    refine (H2.out _).mono ?_
    rintro e w4 ⟨rfl, hb4⟩
    have HA4 := Lib.hid (HA3.out.below hb4)
    have HL4 := Lib.hid (HL1.out.below hb4)
    have HM0 := Lib.hid (Kept.first w4 35 #[.bool false, .int .i64 0])
    have HM1 := Lib.hid (HM0.out.set #[.bool false, .int .i64 0])
    have HA5 := Lib.hid (HA4.out.below HM1.out.2)
    have HL5 := Lib.hid (HL4.out.below HM1.out.2)
    have p0 := HA5.out.cell 0
    have p1 := HA5.out.cell 1
    have p2 := HL5.out.cell 0
    have p3 := HL5.out.cell 1
    have p4 := HM1.out.cell 0
    have p5 := HM1.out.cell 1
    clear hb4
    go_wp2_with (refine wpList_store_row rfl 35 _ _ rfl w4.heap.size #[.bool false, .int .i64 0] rfl rfl 35 _ HM0.out.1 (by kernel_rfl) rfl (style_one _ _) ?_)
    have HA6 := HA5
    refine (AL.out _).mono ?_
    rintro e w7 ⟨rfl, hb7⟩
    have HA7 := Lib.hid (HA6.out.below hb7)
    clear hb7
    go_wp2_with fail
    go_ret
    exact ⟨rfl, HA7.out.2⟩
end Go.Proofs.Ytnggbhpnpomfjaa
