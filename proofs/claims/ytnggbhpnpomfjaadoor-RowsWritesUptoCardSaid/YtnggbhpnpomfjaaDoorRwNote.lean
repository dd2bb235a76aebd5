/- Walks: a text without its note: the program's and the document's. Conditions: the text is no longer than the model's bound. -/
import Derived.Test.YtnggbhpnpomfjaaDoorRwPure
import Derived.Test.YtnggbhpnpomfjaaDoorRwIter
import Derived.Shelf.Strings.SlTrimAscii
set_option linter.unusedVariables false
namespace Go.Proofs.YtnggbhpnpomfjaaDoor.Rw
open Go.RowKit Bl
/-- does a note begin here? -/
def markN (l : List UInt8) (i : Nat) : Bool := decide (l[i]? = some 35) && (decide (i = 0) || decide (l[i - 1]? = some 32) || decide (l[i - 1]? = some 9))
def noteAt (l : List UInt8) : Nat := (List.range l.length).findIdx (markN l)
def blankN (c : UInt8) : Bool := c == 32 || c == 9
def trimN (l : List UInt8) : List UInt8 := (l.reverse.dropWhile blankN).reverse
def noteL (l : List UInt8) : List UInt8 := trimN (l.take (noteAt l))
theorem noteAt_le (l : List UInt8) : noteAt l ≤ l.length := by
  have := List.findIdx_le_length (xs := List.range l.length) (p := markN l)
  rw [List.length_range] at this
  exact this
theorem noteAt_stop {l : List UInt8} {k : Nat} (hk : k < l.length) (h : markN l k = true) (hb : ∀ j, j < k → markN l j = false) : noteAt l = k := by
  unfold noteAt
  rw [List.findIdx_eq (by rw [List.length_range]; exact hk)]
  refine ⟨by simpa using h, fun j hj => by simpa using hb j hj⟩
theorem noteAt_end {l : List UInt8} (hb : ∀ j, j < l.length → markN l j = false) : noteAt l = l.length := by
  have : (List.range l.length).findIdx (markN l) = (List.range l.length).length := by
    rw [List.findIdx_eq_length]
    intro x hx
    exact hb x (List.mem_range.1 hx)
  unfold noteAt
  rw [this, List.length_range]
theorem trim_lib (l : List UInt8) : Lib.trimRightS l [32, 9] = trimN l := by
  unfold Lib.trimRightS trimN
  congr 2
  funext c
  show (([32, 9] : List UInt8).contains c) = _
  by_cases h1 : c = 32
  · subst h1; rfl
  · by_cases h2 : c = 9
    · subst h2; rfl
    · simp [blankN, h1, h2]
theorem trimN_prefix (l : List UInt8) : trimN l <+: l := by
  have h := List.dropWhile_suffix (l := l.reverse) blankN
  unfold trimN
  have := List.reverse_prefix.2 h
  rwa [List.reverse_reverse] at this
theorem trimN_twice (l : List UInt8) : trimN (trimN l) = trimN l := by
  unfold trimN
  rw [List.reverse_reverse]
  congr 1
  have : ∀ m : List UInt8, (m.dropWhile blankN).dropWhile blankN = m.dropWhile blankN := by
    intro m
    induction m with
    | nil => rfl
    | cons c m ih =>
      by_cases h : blankN c = true
      · rw [List.dropWhile_cons_of_pos h]; exact ih
      · rw [List.dropWhile_cons_of_neg h, List.dropWhile_cons_of_neg h]
  exact this _
theorem mark_prefix {l t : List UInt8} (h : t <+: l) (i : Nat) (hi : i < t.length) : markN t i = markN l i := by
  have e : ∀ j, j < t.length → t[j]? = l[j]? := fun j hj => by
    obtain ⟨r, rfl⟩ := h
    rw [List.getElem?_append_left hj]
  unfold markN
  rw [e i hi, e (i - 1) (by omega)]
theorem note_prefix (l : List UInt8) : noteL l <+: l := (trimN_prefix _).trans (List.take_prefix _ _)
theorem note_before {l : List UInt8} {j : Nat} (h : j < noteAt l) : markN l j = false := by
  have h2 : j < (List.range l.length).findIdx (markN l) := h
  have := List.not_of_lt_findIdx h2
  simpa using this
theorem note_again (l : List UInt8) : noteL (noteL l) = noteL l := by
  have hle : (noteL l).length ≤ noteAt l := by
    have := (trimN_prefix (l.take (noteAt l))).length_le
    rw [List.length_take] at this
    exact Nat.le_trans this (Nat.min_le_left _ _)
  have h1 : noteAt (noteL l) = (noteL l).length := noteAt_end (fun j hj => by
    rw [mark_prefix (note_prefix l) j hj]
    exact note_before (by omega))
  show trimN ((noteL l).take (noteAt (noteL l))) = _
  rw [h1, List.take_length]
  exact trimN_twice _
set_option maxRecDepth 100000 in
set_option maxHeartbeats 1600000 in
theorem note_any (s : ByteArray) (w : World) (hs : s.size ≤ 9223372036854775807) : Calls Tryd.prog 40 #[.string s] w fun e w' => e = .returned (.string ⟨(noteL s.data.toList).toArray⟩) ∧ Below w.heap.size w w' := by
  have HLN : Hid (s.data.toList.length = s.size) := rfl
  have TR : Hid (∀ x : ByteArray, x.size ≤ 9223372036854775807 → ∀ W, Calls Tryd.prog 70 #[.string x, .string ⟨#[32, 9]⟩] W fun e w' => e = .returned (.string ⟨(trimN x.data.toList).toArray⟩) ∧ Below W.heap.size W w') := fun x hx W => by
    have h := Any.strings_TrimRight_laid Tryd.lays162 (by kernel_rfl) x ⟨#[32, 9]⟩ W hx (by show 2 < _; omega) (ascii_of_all (by decide))
    rw [show (⟨#[32, 9]⟩ : ByteArray).data.toList = [32, 9] from rfl, trim_lib] at h
    exact h
  go_enter Tryd.func40, Tryd.ntmps40
  go_wp2_with fail
  go_loop [0, 6] (fun u v => ∃ k : Nat, k ≤ s.size ∧ u = .string s ∧ v = .int .i64 (k : Nat) ∧ Hid (∀ j, j < k → markN s.data.toList j = false)) (fun _ v => s.size - (intOf v).toNat)
  case atStart => exact ⟨0, Nat.zero_le _, rfl, rfl, (fun j h => by omega)⟩
  case round =>
    obtain ⟨k, hk, rfl, rfl, hno⟩ := hrel
    by_cases hlt : k < s.size
    · have hlt' : (k : Int) < (s.size : Int) := by omega
      obtain ⟨c, hc⟩ : ∃ c, s.data.toList[k]'hlt = c := ⟨_, rfl⟩
      have hix := index_at s k hlt
      rw [hc] at hix
      have hix2 : ∀ W, (Instr.index 9 (.string s) (.int .i64 (k : Nat))).run Tryd.prog W = .ok (.int .u8 (c.toNat : Int)) W := hix
      have HC : Hid (s.data.toList[k]? = some c) := by show _ = _; rw [List.getElem?_eq_getElem hlt, hc]
      have HNX : Hid (markN s.data.toList k = false → ∀ j, j < k + 1 → markN s.data.toList j = false) := fun h j hj => by
        rcases Nat.lt_or_ge j k with h1 | h1
        · exact hno.out j h1
        · have : j = k := by omega
          subst this; exact h
      clear hix hc
      by_cases hc35 : c = 35
      · have hq : ((c.toNat : Int) == 35) = true := by rw [hc35]; rfl
        by_cases hk0 : k = 0
        · have hmk : markN s.data.toList k = true := by unfold markN; rw [HC.out, hc35, hk0]; rfl
          clear hc35 HC
          have hk00 : ((k : Int) == 0) = true := by rw [hk0]; rfl
          clear hk00
          obtain rfl : k = 0 := hk0
          have hix0 : ∀ W, (Instr.index 9 (.string s) (.int .i64 0)).run Tryd.prog W = .ok (.int .u8 (c.toNat : Int)) W := hix2
          have h0s : (0 : Int) < (s.size : Int) := by omega
          clear hix2 hlt'
          have HN : Hid (noteAt s.data.toList = 0) := noteAt_stop hlt hmk hno.out
          clear hmk HNX
          have hsl := slice_to_any s 0 (by omega)
          obtain ⟨x, hx⟩ : ∃ x : ByteArray, (⟨(s.data.toList.take 0).toArray⟩ : ByteArray) = x := ⟨_, rfl⟩
          rw [hx] at hsl
          have hsl0 : ∀ W, (Instr.sliceAt 9 (.string s) none (some (.int .i64 0)) none).run Tryd.prog W = .ok (.string x) W := hsl
          clear hsl
          have hxd : x.data.toList = s.data.toList.take 0 := by rw [← hx]
          have HXZ : Hid (x.size ≤ 9223372036854775807) := by
            show _ ≤ _
            rw [← bl_size, hxd, List.length_take, bl_size]; omega
          have HV : Hid (trimN x.data.toList = noteL s.data.toList) := by show _ = _; unfold noteL; rw [hxd, HN.out]
          clear hx hxd
          go_wp2_with fail
          refine (TR.out x HXZ.out _).mono ?_
          rintro e w2 ⟨rfl, hb2⟩
          have HB2 := Lib.hid hb2
          clear hb2
          go_wp2_with fail
          go_ret
          exact ⟨by rw [← HV.out]; rfl, HB2.out⟩
        · have hk00 : ((k : Int) == 0) = false := by rw [beq_eq_false_iff_ne]; omega
          have hkm : k - 1 < s.size := by omega
          obtain ⟨d, hd⟩ : ∃ c, s.data.toList[k - 1]'hkm = c := ⟨_, rfl⟩
          have hixd := index_at s (k - 1) hkm
          rw [hd, show ((k - 1 : Nat) : Int) = (k : Int) - 1 by omega] at hixd
          have hixd2 : ∀ W, (Instr.index 9 (.string s) (.int .i64 ((k : Int) - 1))).run Tryd.prog W = .ok (.int .u8 (d.toNat : Int)) W := hixd
          have HD : Hid (s.data.toList[k - 1]? = some d) := by show _ = _; rw [List.getElem?_eq_getElem hkm, hd]
          have hkw : IntKind.i64.wrap ((k : Int) - 1) = (k : Int) - 1 := by rw [IntKind.wrap_i64]; omega
          clear hixd hd
          by_cases hd32 : d = 32
          · have hq2 : ((d.toNat : Int) == 32) = true := by rw [hd32]; rfl
            have hmk : markN s.data.toList k = true := by unfold markN; rw [HC.out, HD.out, hc35, hd32]; simp
            clear hc35 hd32 HC HD
            have HN : Hid (noteAt s.data.toList = k) := noteAt_stop hlt hmk hno.out
            clear hmk HNX
            have hsl := slice_to_any s k (by omega)
            obtain ⟨x, hx⟩ : ∃ x : ByteArray, (⟨(s.data.toList.take k).toArray⟩ : ByteArray) = x := ⟨_, rfl⟩
            rw [hx] at hsl
            have hxd : x.data.toList = s.data.toList.take k := by rw [← hx]
            have HXZ : Hid (x.size ≤ 9223372036854775807) := by
              show _ ≤ _
              rw [← bl_size, hxd, List.length_take, bl_size]; omega
            have HV : Hid (trimN x.data.toList = noteL s.data.toList) := by show _ = _; unfold noteL; rw [hxd, HN.out]
            clear hx hxd
            go_wp2_with fail
            refine (TR.out x HXZ.out _).mono ?_
            rintro e w2 ⟨rfl, hb2⟩
            have HB2 := Lib.hid hb2
            clear hb2
            go_wp2_with fail
            go_ret
            exact ⟨by rw [← HV.out]; rfl, HB2.out⟩
          · have hq2 : ((d.toNat : Int) == 32) = false := by
              have h := byte_eq d 32
              rw [decide_eq_false hd32] at h
              exact h
            by_cases hd9 : d = 9
            · have hq3 : ((d.toNat : Int) == 9) = true := by rw [hd9]; rfl
              have hmk : markN s.data.toList k = true := by unfold markN; rw [HC.out, HD.out, hc35, hd9]; simp
              clear hc35 hd32 hd9 HC HD
              have HN : Hid (noteAt s.data.toList = k) := noteAt_stop hlt hmk hno.out
              clear hmk HNX
              have hsl := slice_to_any s k (by omega)
              obtain ⟨x, hx⟩ : ∃ x : ByteArray, (⟨(s.data.toList.take k).toArray⟩ : ByteArray) = x := ⟨_, rfl⟩
              rw [hx] at hsl
              have hxd : x.data.toList = s.data.toList.take k := by rw [← hx]
              have HXZ : Hid (x.size ≤ 9223372036854775807) := by
                show _ ≤ _
                rw [← bl_size, hxd, List.length_take, bl_size]; omega
              have HV : Hid (trimN x.data.toList = noteL s.data.toList) := by show _ = _; unfold noteL; rw [hxd, HN.out]
              clear hx hxd
              go_wp2_with fail
              refine (TR.out x HXZ.out _).mono ?_
              rintro e w2 ⟨rfl, hb2⟩
              have HB2 := Lib.hid hb2
              clear hb2
              go_wp2_with fail
              go_ret
              exact ⟨by rw [← HV.out]; rfl, HB2.out⟩
            · have hq3 : ((d.toNat : Int) == 9) = false := by
                have h := byte_eq d 9
                rw [decide_eq_false hd9] at h
                exact h
              have hmk : markN s.data.toList k = false := by unfold markN; rw [HC.out, HD.out]; simp [hd32, hd9, hk0]
              clear hc35 hd32 hd9 HC HD
              have HN := Lib.hid (HNX.out hmk)
              clear hmk HNX
              go_wp2_with fail
              go_round
              case rel => exact ⟨k + 1, by omega, rfl, by go_num, HN.out⟩
              case measure => simp [intOf]; omega
      · have hq : ((c.toNat : Int) == 35) = false := by
          have h := byte_eq c 35
          rw [decide_eq_false hc35] at h
          exact h
        have hmk : markN s.data.toList k = false := by unfold markN; rw [HC.out]; simp [hc35]
        clear hc35 HC
        have HN := Lib.hid (HNX.out hmk)
        clear hmk HNX
        go_wp2_with fail
        go_round
        case rel => exact ⟨k + 1, by omega, rfl, by go_num, HN.out⟩
        case measure => simp [intOf]; omega
    · obtain rfl : k = s.size := by omega
      have HN : Hid (noteAt s.data.toList = s.data.toList.length) := noteAt_end hno.out
      have HV : Hid (trimN s.data.toList = noteL s.data.toList) := by show _ = _; unfold noteL; rw [HN.out, List.take_length]
      have HS := Lib.hid hs
      clear HN hno
      go_wp2_with fail
      refine (TR.out s HS.out _).mono ?_
      rintro e w2 ⟨rfl, hb2⟩
      have HB2 := Lib.hid hb2
      clear hb2
      go_wp2_with fail
      go_ret
      exact ⟨by rw [← HV.out]; rfl, HB2.out⟩
end Go.Proofs.YtnggbhpnpomfjaaDoor.Rw
