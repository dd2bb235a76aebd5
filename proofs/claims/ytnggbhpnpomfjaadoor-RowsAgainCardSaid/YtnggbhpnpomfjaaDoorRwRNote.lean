/- Walk: the document's Note. Conditions: the text is no longer than the model's bound. -/
import Derived.Test.YtnggbhpnpomfjaaDoorRwNote
set_option linter.unusedVariables false
namespace Go.Proofs.YtnggbhpnpomfjaaDoor.Rw
open Go.RowKit Bl
/-- the first mark from a place on -/
structure FromN (l : List UInt8) (k e : Nat) : Prop where
  le : e ≤ l.length
  ge : k ≤ e
  at_ : e < l.length → markN l e = true
  no : ∀ j, k ≤ j → j < e → markN l j = false
theorem FromN.start (l : List UInt8) : FromN l l.length l.length := ⟨Nat.le_refl _, Nat.le_refl _, fun h => by omega, fun j h1 h2 => by omega⟩
theorem FromN.hit {l : List UInt8} {j e : Nat} (h : FromN l (j + 1) e) (hm : markN l j = true) : FromN l j j :=
  ⟨by have := h.le; have := h.ge; omega, Nat.le_refl _, fun _ => hm, fun i h1 h2 => by omega⟩
theorem FromN.miss {l : List UInt8} {j e : Nat} (h : FromN l (j + 1) e) (hm : markN l j = false) : FromN l j e :=
  ⟨h.le, by have := h.ge; omega, h.at_, fun i h1 h2 => by
    by_cases e : i = j
    · subst e; exact hm
    · exact h.no i (by omega) h2⟩
theorem FromN.all {l : List UInt8} {e : Nat} (h : FromN l 0 e) : noteAt l = e := by
  rcases Nat.lt_or_ge e l.length with h1 | h1
  · exact noteAt_stop h1 (h.at_ h1) (fun j hj => h.no j (Nat.zero_le _) hj)
  · have he : e = l.length := by have := h.le; omega
    subst he
    exact noteAt_end (fun j hj => h.no j (Nat.zero_le _) hj)
theorem trimN_snoc (l : List UInt8) (c : UInt8) : trimN (l ++ [c]) = if blankN c = true then trimN l else l ++ [c] := by
  unfold trimN
  rw [List.reverse_append]
  show (((c :: l.reverse).dropWhile blankN).reverse) = _
  by_cases h : blankN c = true
  · rw [List.dropWhile_cons_of_pos h, if_pos h]
  · rw [List.dropWhile_cons_of_neg h, if_neg h]; simp
theorem trimN_step {l : List UInt8} {m : Nat} (h : m < l.length) : trimN (l.take (m + 1)) = if blankN (l[m]'h) = true then trimN (l.take m) else l.take (m + 1) := by
  rw [List.take_succ_eq_append_getElem h, trimN_snoc]
set_option maxRecDepth 100000 in
set_option maxHeartbeats 3200000 in
theorem rnote_any (s : ByteArray) (w : World) (hs : s.size ≤ 9223372036854775807) : Calls Tryd.prog 41 #[.string s] w fun e w' => e = .returned (.string ⟨(noteL s.data.toList).toArray⟩) ∧ Below w.heap.size w w' := by
  have HLN : Hid (s.data.toList.length = s.size) := rfl
  have hsw : IntKind.i64.wrap ((s.size : Int) - 1) = (s.size : Int) - 1 := by rw [IntKind.wrap_i64]; omega
  have HS0 : Hid (FromN s.data.toList s.size s.size) := FromN.start _
  go_enter Tryd.func41, Tryd.ntmps41
  go_wp2_with fail
  go_loop [3, 4] (fun u v => ∃ (m : Int) (e : Nat), -1 ≤ m ∧ m < (s.size : Int) ∧ u = .int .i64 (e : Nat) ∧ v = .int .i64 m ∧ Hid (FromN s.data.toList (m + 1).toNat e)) (fun _ v => (intOf v + 1).toNat)
  case atStart => exact ⟨(s.size : Int) - 1, s.size, by omega, by omega, rfl, rfl, by rw [show ((s.size : Int) - 1 + 1).toNat = s.size by omega]; exact HS0.out⟩
  case round =>
    obtain ⟨m, e, hm1, hm2, rfl, rfl, hfr⟩ := hrel
    have hex : Hid (e ≤ s.size) := hfr.out.le
    by_cases hlt : 0 ≤ m
    · obtain ⟨k, rfl⟩ : ∃ k : Nat, m = k := ⟨m.toNat, by omega⟩
      have hks : k < s.size := by omega
      have hlt' : (k : Int) < (s.size : Int) := by omega
      have HFR : Hid (FromN s.data.toList (k + 1) e) := by
        have := hfr.out
        rwa [show ((k : Int) + 1).toNat = k + 1 by omega] at this
      obtain ⟨c, hc⟩ : ∃ c, s.data.toList[k]'hks = c := ⟨_, rfl⟩
      have hix := index_at s k hks
      rw [hc] at hix
      have hix2 : ∀ W, (Instr.index 9 (.string s) (.int .i64 (k : Nat))).run Tryd.prog W = .ok (.int .u8 (c.toNat : Int)) W := hix
      have HC : Hid (s.data.toList[k]? = some c) := by show _ = _; rw [List.getElem?_eq_getElem hks, hc]
      have hkw : IntKind.i64.wrap ((k : Int) - 1) = (k : Int) - 1 := by rw [IntKind.wrap_i64]; omega
      clear hix hc hfr
      by_cases hc35 : c = 35
      · have hq : ((c.toNat : Int) == 35) = true := by rw [hc35]; rfl
        by_cases hk0 : k = 0
        · have hmk : markN s.data.toList k = true := by unfold markN; rw [HC.out, hc35, hk0]; rfl
          clear hc35 HC
          obtain rfl : k = 0 := hk0
          have hix0 : ∀ W, (Instr.index 9 (.string s) (.int .i64 0)).run Tryd.prog W = .ok (.int .u8 (c.toNat : Int)) W := hix2
          have h0s : (0 : Int) < (s.size : Int) := by omega
          clear hix2 hlt' hkw
          have HN := Lib.hid (HFR.out.hit hmk)
          clear hmk HFR
          go_wp2_with fail
          go_round
          case rel => exact ⟨-1, 0, by omega, by omega, by go_num, by go_num, by rw [show ((-1 : Int) + 1).toNat = 0 from rfl]; exact HN.out⟩
          case measure => simp [intOf]
        · have hk00 : ((k : Int) == 0) = false := by rw [beq_eq_false_iff_ne]; omega
          have hkm : k - 1 < s.size := by omega
          obtain ⟨d, hd⟩ : ∃ c, s.data.toList[k - 1]'hkm = c := ⟨_, rfl⟩
          have hixd := index_at s (k - 1) hkm
          rw [hd, show ((k - 1 : Nat) : Int) = (k : Int) - 1 by omega] at hixd
          have hixd2 : ∀ W, (Instr.index 9 (.string s) (.int .i64 ((k : Int) - 1))).run Tryd.prog W = .ok (.int .u8 (d.toNat : Int)) W := hixd
          have HD : Hid (s.data.toList[k - 1]? = some d) := by show _ = _; rw [List.getElem?_eq_getElem hkm, hd]
          clear hixd hd
          by_cases hd32 : d = 32
          · have hq2 : ((d.toNat : Int) == 32) = true := by rw [hd32]; rfl
            have hmk : markN s.data.toList k = true := by unfold markN; rw [HC.out, HD.out, hc35, hd32]; simp
            clear hc35 hd32 HC HD
            have HN := Lib.hid (HFR.out.hit hmk)
            clear hmk HFR
            go_wp2_with fail
            go_round
            case rel => exact ⟨(k : Int) - 1, k, by omega, by omega, by go_num, by go_num, by rw [show ((k : Int) - 1 + 1).toNat = k by omega]; exact HN.out⟩
            case measure => simp [intOf] <;> omega
          · have hq2 : ((d.toNat : Int) == 32) = false := by
              have h := byte_eq d 32
              rw [decide_eq_false hd32] at h
              exact h
            by_cases hd9 : d = 9
            · have hq3 : ((d.toNat : Int) == 9) = true := by rw [hd9]; rfl
              have hmk : markN s.data.toList k = true := by unfold markN; rw [HC.out, HD.out, hc35, hd9]; simp
              clear hc35 hd32 hd9 HC HD
              have HN := Lib.hid (HFR.out.hit hmk)
              clear hmk HFR
              go_wp2_with fail
              go_round
              case rel => exact ⟨(k : Int) - 1, k, by omega, by omega, by go_num, by go_num, by rw [show ((k : Int) - 1 + 1).toNat = k by omega]; exact HN.out⟩
              case measure => simp [intOf] <;> omega
            · have hq3 : ((d.toNat : Int) == 9) = false := by
                have h := byte_eq d 9
                rw [decide_eq_false hd9] at h
                exact h
              have hmk : markN s.data.toList k = false := by unfold markN; rw [HC.out, HD.out]; simp [hd32, hd9, hk0]
              clear hc35 hd32 hd9 HC HD
              have HN := Lib.hid (HFR.out.miss hmk)
              clear hmk HFR
              go_wp2_with fail
              go_round
              case rel => exact ⟨(k : Int) - 1, e, by omega, by omega, rfl, by go_num, by rw [show ((k : Int) - 1 + 1).toNat = k by omega]; exact HN.out⟩
              case measure => simp [intOf] <;> omega
      · have hq : ((c.toNat : Int) == 35) = false := by
          have h := byte_eq c 35
          rw [decide_eq_false hc35] at h
          exact h
        have hmk : markN s.data.toList k = false := by unfold markN; rw [HC.out]; simp [hc35]
        clear hc35 HC
        have HN := Lib.hid (HFR.out.miss hmk)
        clear hmk HFR
        go_wp2_with fail
        go_round
        case rel => exact ⟨(k : Int) - 1, e, by omega, by omega, rfl, by go_num, by rw [show ((k : Int) - 1 + 1).toNat = k by omega]; exact HN.out⟩
        case measure => simp [intOf] <;> omega
    · obtain rfl : m = -1 := by omega
      have HNA : Hid (noteAt s.data.toList = e) := hfr.out.all
      have HT0 : Hid (trimN (s.data.toList.take e) = noteL s.data.toList) := by show _ = _; unfold noteL; rw [HNA.out]
      clear hfr HNA
      go_wp2_with fail
      go_loop [3] (fun u => ∃ e : Nat, u = .int .i64 (e : Nat) ∧ Hid (e ≤ s.size) ∧ Hid (trimN (s.data.toList.take e) = noteL s.data.toList)) (fun u => (intOf u).toNat)
      case atStart => exact ⟨e, rfl, hex.out, HT0.out⟩
      case round =>
        obtain ⟨e, rfl, he, htr⟩ := hrel
        have hes := he.out
        by_cases he0 : e = 0
        · obtain rfl : e = 0 := he0
          have hsl0 : ∀ W, (Instr.sliceAt 9 (.string s) none (some (.int .i64 0)) none).run Tryd.prog W = .ok (.string ⟨(s.data.toList.take 0).toArray⟩) W := slice_to_any s 0 (by omega)
          have HV : Hid ((⟨(s.data.toList.take 0).toArray⟩ : ByteArray) = ⟨(noteL s.data.toList).toArray⟩) := by show _ = _; rw [← htr.out]; rfl
          obtain ⟨x, hx⟩ : ∃ x : ByteArray, (⟨(s.data.toList.take 0).toArray⟩ : ByteArray) = x := ⟨_, rfl⟩
          rw [hx] at hsl0 HV
          clear htr hx
          go_wp2_with fail
          go_ret
          exact ⟨by rw [← HV.out]; rfl, Below.refl _ _⟩
        · obtain ⟨m, rfl⟩ : ∃ m, e = m + 1 := ⟨e - 1, by omega⟩
          have hms : m < s.size := by omega
          obtain ⟨d, hd⟩ : ∃ c, s.data.toList[m]'hms = c := ⟨_, rfl⟩
          have hixd := index_at s m hms
          rw [hd] at hixd
          have hst := trimN_step (l := s.data.toList) hms
          rw [hd] at hst
          have HST := Lib.hid hst
          obtain ⟨k, hk⟩ : ∃ k, m + 1 = k := ⟨_, rfl⟩
          have hkm : (m : Int) = (k : Int) - 1 := by omega
          have hixd2 : ∀ W, (Instr.index 9 (.string s) (.int .i64 ((k : Int) - 1))).run Tryd.prog W = .ok (.int .u8 (d.toNat : Int)) W := by rw [← hkm]; exact hixd
          rw [hk] at htr HST hes ⊢
          have HK := Lib.hid hk
          have hk0 : (0 : Int) < (k : Int) := by omega
          have hkd : decide (0 < k) = true := decide_eq_true (by omega)
          have hkw : IntKind.i64.wrap ((k : Int) - 1) = (k : Int) - 1 := by rw [IntKind.wrap_i64]; omega
          have hkl : (k : Int) - 1 < (s.size : Int) := by omega
          clear hixd hd hst he hk he0
          by_cases hd32 : d = 32
          · have hq2 : ((d.toNat : Int) == 32) = true := by rw [hd32]; rfl
            have HT2 : Hid (trimN (s.data.toList.take m) = noteL s.data.toList) := by show _ = _; rw [← htr.out, HST.out, hd32]; rfl
            clear hd32
            go_wp2_with fail
            go_round
            case rel => exact ⟨m, by rw [hkm], by show _ ≤ _; omega, HT2.out⟩
            case measure => simp [intOf] <;> omega
          · have hq2 : ((d.toNat : Int) == 32) = false := by
              have h := byte_eq d 32
              rw [decide_eq_false hd32] at h
              exact h
            by_cases hd9 : d = 9
            · have hq3 : ((d.toNat : Int) == 9) = true := by rw [hd9]; rfl
              have HT2 : Hid (trimN (s.data.toList.take m) = noteL s.data.toList) := by show _ = _; rw [← htr.out, HST.out, hd9]; rfl
              clear hd32 hd9
              go_wp2_with fail
              go_round
              case rel => exact ⟨m, by rw [hkm], by show _ ≤ _; omega, HT2.out⟩
              case measure => simp [intOf] <;> omega
            · have hq3 : ((d.toNat : Int) == 9) = false := by
                have h := byte_eq d 9
                rw [decide_eq_false hd9] at h
                exact h
              have HT2 : Hid (s.data.toList.take k = noteL s.data.toList) := by
                show _ = _
                rw [← htr.out, HST.out]
                rw [if_neg (by simp [blankN, hd32, hd9])]
              have hsl := slice_to_any s k hes
              obtain ⟨x, hx⟩ : ∃ x : ByteArray, (⟨(s.data.toList.take k).toArray⟩ : ByteArray) = x := ⟨_, rfl⟩
              have HV : Hid (x = ⟨(noteL s.data.toList).toArray⟩) := by show _ = _; rw [← hx, HT2.out]
              rw [hx] at hsl
              clear htr hx hd32 hd9
              go_wp2_with fail
              go_ret
              exact ⟨by rw [← HV.out]; rfl, Below.refl _ _⟩
end Go.Proofs.YtnggbhpnpomfjaaDoor.Rw
