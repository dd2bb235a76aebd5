/- The law 'UtfApart': the bytes of one sign begin no other one's, and lie within none. Conditions: the decoder's two tables are as they are laid. -/
import Derived.Test.YtnggbhpnpomfjaaDoorLawUtA
set_option linter.unusedVariables false
namespace Go.Proofs.YtnggbhpnpomfjaaDoor
open Go.RowKit
theorem enc_bytes {n : Int} (h : signB n = true) : (((Lib.encodeRune n).getD 0 0).toNat < 128 ∨ 192 ≤ ((Lib.encodeRune n).getD 0 0).toNat) ∧ ∀ i, 1 ≤ i → i < (Lib.encodeRune n).length → 128 ≤ ((Lib.encodeRune n).getD i 0).toNat ∧ ((Lib.encodeRune n).getD i 0).toNat < 192 := by
  obtain ⟨h0, h1, h2⟩ := signB_iff.1 h
  unfold Lib.encodeRune
  by_cases c1 : n ≤ 127
  · rw [Lib.encodeRuneZ_one h0 c1]
    simp only [List.map_cons, List.map_nil, List.length_cons, List.length_nil, List.getD_cons_zero]
    rw [byte_toNat h0 (by omega)]
    exact ⟨Or.inl (by omega), fun i h1 h2 => by omega⟩
  · by_cases c2 : n ≤ 2047
    · rw [Lib.encodeRuneZ_two (by omega) c2]
      simp only [List.map_cons, List.map_nil, List.length_cons, List.length_nil, List.getD_cons_zero]
      rw [byte_toNat (z := 192 + n / 64) (by omega) (by omega)]
      refine ⟨Or.inr (by omega), fun i h1 h2 => ?_⟩
      obtain rfl : i = 1 := by omega
      simp only [List.getD_cons_zero, List.getD_cons_succ]
      rw [byte_toNat (z := 128 + n % 64) (by omega) (by omega)]
      omega
    · by_cases c3 : n ≤ 65535
      · rw [Lib.encodeRuneZ_three (by omega)]
        simp only [List.map_cons, List.map_nil, List.length_cons, List.length_nil, List.getD_cons_zero]
        rw [byte_toNat (z := 224 + n / 4096) (by omega) (by omega)]
        refine ⟨Or.inr (by omega), fun i h1 h2 => ?_⟩
        obtain rfl | rfl : i = 1 ∨ i = 2 := by omega
        · simp only [List.getD_cons_zero, List.getD_cons_succ]
          rw [byte_toNat (z := 128 + n / 64 % 64) (by omega) (by omega)]
          omega
        · simp only [List.getD_cons_zero, List.getD_cons_succ]
          rw [byte_toNat (z := 128 + n % 64) (by omega) (by omega)]
          omega
      · rw [Lib.encodeRuneZ_four (by omega) h1]
        simp only [List.map_cons, List.map_nil, List.length_cons, List.length_nil, List.getD_cons_zero]
        rw [byte_toNat (z := 240 + n / 262144) (by omega) (by omega)]
        refine ⟨Or.inr (by omega), fun i h1 h2 => ?_⟩
        obtain rfl | rfl | rfl : i = 1 ∨ i = 2 ∨ i = 3 := by omega
        · simp only [List.getD_cons_zero, List.getD_cons_succ]
          rw [byte_toNat (z := 128 + n / 4096 % 64) (by omega) (by omega)]
          omega
        · simp only [List.getD_cons_zero, List.getD_cons_succ]
          rw [byte_toNat (z := 128 + n / 64 % 64) (by omega) (by omega)]
          omega
        · simp only [List.getD_cons_zero, List.getD_cons_succ]
          rw [byte_toNat (z := 128 + n % 64) (by omega) (by omega)]
          omega
/-- a sign's bytes stand nowhere in another one's -/
theorem apart_any {a b : Int} (ha : signB a = true) (hb : signB b = true) (hne : a ≠ b) (i : Nat) (hi : i + (Lib.encodeRune a).length ≤ (Lib.encodeRune b).length) : ((Lib.encodeRune b).drop i).take (Lib.encodeRune a).length ≠ Lib.encodeRune a := by
  intro e
  have la := encodeRune_le a
  cases i with
  | zero =>
    rw [List.drop_zero] at e
    have h : Lib.encodeRune a ++ (Lib.encodeRune b).drop (Lib.encodeRune a).length = Lib.encodeRune b ++ [] := by
      rw [List.append_nil]
      have := List.take_append_drop (Lib.encodeRune a).length (Lib.encodeRune b)
      rw [e] at this
      exact this
    exact hne (encode_inj ha hb h).1
  | succ i =>
    have h0 := (enc_bytes ha).1
    have h1 := (enc_bytes hb).2 (i + 1) (by omega) (by omega)
    have e0 := congrArg (fun l => l[0]?) e
    simp only [List.getElem?_take, List.getElem?_drop, Nat.add_zero] at e0
    rw [if_pos (by omega)] at e0
    have : (Lib.encodeRune a).getD 0 0 = (Lib.encodeRune b).getD (i + 1) 0 := by
      rw [List.getD_eq_getElem?_getD, List.getD_eq_getElem?_getD, e0]
    rw [this] at h0
    omega
theorem ints_one (w : World) (a : Int) (ha : -9223372036854775808 ≤ a ∧ a ≤ 9223372036854775807) : IntsIn (w.alloc (.cells #[.int .i64 a] 3)) (some ⟨w.heap.size, 0, none⟩) 1 [a] :=
  ⟨fun i hi => by
    obtain rfl : i = 0 := by simpa using hi
    exact ⟨w.heap.size, 0, rfl, by simp, cell_of_row _ _ _ _ _ _ (heap_alloc_new w _)⟩, fun i hi => by
    obtain rfl : i = 0 := by simpa using hi
    exact ha, Nat.le_refl _, by simp⟩
theorem encV_one (a : Int) : encV [a] = if signB a = true then .tuple #[.string ⟨(Lib.encodeRune a).toArray⟩, .int .i64 0] else .tuple #[.string ⟨#[]⟩, .int .i64 8] := by
  unfold encV encOk encL
  simp
theorem enc_one (w : World) (a : Int) (ha : -9223372036854775808 ≤ a ∧ a ≤ 9223372036854775807) :
    Calls Tryd.prog 19 #[.slice (some ⟨w.heap.size, 0, none⟩) 1 1] (w.alloc (.cells #[.int .i64 a] 3)) fun e w' => e = .returned (encV [a]) ∧ Below w.heap.size w w' :=
  (encode_any _ _ _ _ (ints_one w a ha)).mono fun e w' ⟨h1, h2⟩ => ⟨h1, ((Below.refl _ _).alloc (Nat.le_refl _) _).trans (h2.mono (by simp))⟩
set_option maxHeartbeats 1600000 in
theorem law_UtfApart (w : World) (a : Int) (ha : -9223372036854775808 ≤ a ∧ a ≤ 9223372036854775807) (b : Int) (hb : -9223372036854775808 ≤ b ∧ b ≤ 9223372036854775807) (hT : Tabs w) :
    Calls Tryd.prog 4 #[.int .i64 a, .int .i64 b] w (LawPost w) := by
  have EA := Lib.hid (fun W => enc_one W a ha)
  have EB := Lib.hid (fun W => enc_one W b hb)
  have AL := Lib.hid (fun W (hW : Below w.heap.size w W) => alive_any W (hT.below hW))
  rw [encV_one] at EA EB
  clear hT
  cases hs : signB a with
  | false =>
    rw [hs] at EA
    simp only [Bool.false_eq_true, if_false] at EA
    obtain ⟨vb, kb, hvb⟩ : ∃ (s : ByteArray) (k : Nat), (if signB b = true then Value.tuple #[.string ⟨(Lib.encodeRune b).toArray⟩, .int .i64 0] else .tuple #[.string ⟨#[]⟩, .int .i64 8]) = .tuple #[.string s, .int .i64 (k : Nat)] := by
      split
      · exact ⟨_, 0, rfl⟩
      · exact ⟨_, 8, rfl⟩
    rw [hvb] at EB
    clear hs hvb
    go_enter Tryd.func4, Tryd.ntmps4
    go_wp2_with fail
    refine (EA.out _).mono ?_
    rintro e w1 ⟨rfl, hb1⟩
    have HB1 := Lib.hid hb1
    clear hb1
    go_wp2_with fail
    refine (EB.out _).mono ?_
    rintro e w2 ⟨rfl, hb2⟩
    have HB2 := Lib.hid (HB1.out.trans (hb2.mono HB1.out.size))
    clear hb2
    go_wp2_with fail
    refine (AL.out _ HB2.out).mono ?_
    rintro e w3 ⟨rfl, hb3⟩
    have HB3 := Lib.hid (HB2.out.trans (hb3.mono HB2.out.size))
    clear hb3
    go_wp2_with fail
    go_ret
    exact ⟨rfl, HB3.out⟩
  | true =>
    rw [hs] at EA
    simp only [if_true] at EA
    have HSA := Lib.hid hs
    clear hs
    cases hs2 : signB b with
    | false =>
      rw [hs2] at EB
      simp only [Bool.false_eq_true, if_false] at EB
      clear hs2
      generalize (⟨(Lib.encodeRune a).toArray⟩ : ByteArray) = sa at EA
      go_enter Tryd.func4, Tryd.ntmps4
      go_wp2_with fail
      refine (EA.out _).mono ?_
      rintro e w1 ⟨rfl, hb1⟩
      have HB1 := Lib.hid hb1
      clear hb1
      go_wp2_with fail
      refine (EB.out _).mono ?_
      rintro e w2 ⟨rfl, hb2⟩
      have HB2 := Lib.hid (HB1.out.trans (hb2.mono HB1.out.size))
      clear hb2
      go_wp2_with fail
      refine (AL.out _ HB2.out).mono ?_
      rintro e w3 ⟨rfl, hb3⟩
      have HB3 := Lib.hid (HB2.out.trans (hb3.mono HB2.out.size))
      clear hb3
      go_wp2_with fail
      go_ret
      exact ⟨rfl, HB3.out⟩
    | true =>
      rw [hs2] at EB
      simp only [if_true] at EB
      have HSB := Lib.hid hs2
      clear hs2
      by_cases hab : a = b
      · subst hab
        have hq : (a == a) = true := beq_self_eq_true a
        generalize (⟨(Lib.encodeRune a).toArray⟩ : ByteArray) = sa at EA EB
        go_enter Tryd.func4, Tryd.ntmps4
        go_wp2_with fail
        refine (EA.out _).mono ?_
        rintro e w1 ⟨rfl, hb1⟩
        have HB1 := Lib.hid hb1
        clear hb1
        go_wp2_with fail
        refine (EB.out _).mono ?_
        rintro e w2 ⟨rfl, hb2⟩
        have HB2 := Lib.hid (HB1.out.trans (hb2.mono HB1.out.size))
        clear hb2
        go_wp2_with fail
        refine (AL.out _ HB2.out).mono ?_
        rintro e w3 ⟨rfl, hb3⟩
        have HB3 := Lib.hid (HB2.out.trans (hb3.mono HB2.out.size))
        clear hb3
        go_wp2_with fail
        go_ret
        exact ⟨rfl, HB3.out⟩
      · have hq : (a == b) = false := beq_eq_false_iff_ne.2 hab
        obtain ⟨sa, hsa⟩ : ∃ s : ByteArray, s = ⟨(Lib.encodeRune a).toArray⟩ := ⟨_, rfl⟩
        obtain ⟨sb, hsb⟩ : ∃ s : ByteArray, s = ⟨(Lib.encodeRune b).toArray⟩ := ⟨_, rfl⟩
        have AP : Hid (∀ i, i + sa.size ≤ sb.size → ((sb.extract i (i + sa.size)).toList == sa.toList) = false) := by
          intro i hi
          rw [toList_eq_iff, decide_eq_false_iff_not]
          intro e
          have e1 := congrArg (fun x : ByteArray => x.data.toList) e
          simp only [Lib.extract_data] at e1
          rw [hsa, hsb, str_size, str_of, str_of, Nat.add_sub_cancel_left] at e1
          rw [hsa, hsb, str_size, str_size] at hi
          exact apart_any HSA.out HSB.out hab i hi e1
        have hza : sa.size ≤ 4 := by rw [hsa, str_size]; exact (encodeRune_le a).2
        have hzb : sb.size ≤ 4 := by rw [hsb, str_size]; exact (encodeRune_le b).2
        rw [← hsa] at EA
        rw [← hsb] at EB
        clear hsa hsb hab
        go_enter Tryd.func4, Tryd.ntmps4
        go_wp2_with fail
        refine (EA.out _).mono ?_
        rintro e w1 ⟨rfl, hb1⟩
        have HB1 := Lib.hid hb1
        clear hb1
        go_wp2_with fail
        refine (EB.out _).mono ?_
        rintro e w2 ⟨rfl, hb2⟩
        have HB2 := Lib.hid (HB1.out.trans (hb2.mono HB1.out.size))
        clear hb2
        go_wp2_with fail
        go_loopw [9] (fun v wr => ∃ i : Nat, i ≤ 10 ∧ v = .int .i64 (i : Nat) ∧ w2 = wr) (fun v _ => 11 - (intOf v).toNat)
        case atStart => exact ⟨0, by omega, rfl, rfl⟩
        case round =>
          obtain ⟨i, hi, rfl, rfl⟩ := hrel
          by_cases hc : i + sa.size ≤ sb.size
          · have hc' : (i : Int) + (sa.size : Int) ≤ (sb.size : Int) := by omega
            have hap := AP.out i hc
            have hsl : ∀ W, (Instr.sliceAt 9 (.string sb) (some (.int .i64 (i : Int))) (some (.int .i64 ((i : Int) + (sa.size : Int)))) none).run Tryd.prog W = .ok (.string (sb.extract i (i + sa.size))) W := by
              intro W
              rw [run_sliceAt_string W _ _ _ _ _ Tryd.underlying9]
              have hb1 : (Instr.sliceBound (.int .i64 (i : Int)) (i + sa.size) .sliceB).run Tryd.prog W = .ok i W := run_sliceBound _ .i64 (i : Int) (i + sa.size) .sliceB (by omega) (by omega)
              have hb2 : (Instr.sliceBound (.int .i64 ((i : Int) + (sa.size : Int))) sb.size .sliceAlen).run Tryd.prog W = .ok (i + sa.size) W := by
                have := run_sliceBound (P := Tryd.prog) W .i64 ((i + sa.size : Nat) : Int) sb.size .sliceAlen (by omega) (by omega)
                rw [show ((i + sa.size : Nat) : Int) = (i : Int) + (sa.size : Int) by omega] at this
                rw [this]; congr 1
              simp [Instr.slice, run_underlying Tryd.underlying9, Instr.sliceBounds, hb1, hb2]
            generalize sb.extract i (i + sa.size) = sub at hap hsl
            have HC := Lib.hid hc
            clear hc
            go_wp2_with fail
            go_roundw
            case rel => exact ⟨i + 1, by have := HC.out; omega, by go_num, trivial⟩
            case measure => simp [intOf]; omega
          · have hc' : ¬ ((i : Int) + (sa.size : Int) ≤ (sb.size : Int)) := by omega
            clear hc
            go_wp2_with fail
            refine (AL.out _ HB2.out).mono ?_
            rintro e w3 ⟨rfl, hb3⟩
            have HB3 := Lib.hid (HB2.out.trans (hb3.mono HB2.out.size))
            clear hb3
            go_wp2_with fail
            go_ret
            exact ⟨rfl, HB3.out⟩
end Go.Proofs.YtnggbhpnpomfjaaDoor
