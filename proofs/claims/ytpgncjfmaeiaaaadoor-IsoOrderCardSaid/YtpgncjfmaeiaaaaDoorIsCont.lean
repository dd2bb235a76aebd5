/- slices.ContainsFunc at its two function values. Conditions: the row is no longer than 2^20. -/
import Derived.Test.YtpgncjfmaeiaaaaDoorIsKeys
set_option linter.unusedVariables false
namespace Go.Proofs.YtpgncjfmaeiaaaaDoor.Is
open Go.RowKit
theorem any_none {zs : List Int} {p : Int → Bool} (h : ∀ j, j < zs.length → p (zs.getD j 0) = false) : zs.any p = false := by
  rw [List.any_eq_false]
  intro x hx
  obtain ⟨i, hi, rfl⟩ := List.getElem_of_mem hx
  have := h i hi
  rw [List.getD_eq_getElem?_getD, List.getElem?_eq_getElem hi] at this
  simpa using this
theorem any_some {zs : List Int} {p : Int → Bool} {j : Nat} (hj : j < zs.length) (h : p (zs.getD j 0) = true) : zs.any p = true := by
  rw [List.any_eq_true]
  refine ⟨zs[j], List.getElem_mem hj, ?_⟩
  rw [List.getD_eq_getElem?_getD, List.getElem?_eq_getElem hj] at h
  simpa using h
set_option maxHeartbeats 800000 in
theorem index_kid (A : Option Addr) (c g : Nat) (zs : List Int) (p : Int → Bool) (w : World) (hr : Row w A zs) (hl : zs.length ≤ 1048576)
    (hp : ∀ W i, i < zs.length → Below w.heap.size w W → Calls Tryd.prog 37 #[.int .i64 (zs.getD i 0), .pointer (some ⟨g, 0, none⟩)] W fun e w' => e = .returned (.bool (p (zs.getD i 0))) ∧ Hid (Below W.heap.size W w')) :
    Calls Tryd.prog 39 #[.slice A zs.length c, .func (.func 37) #[] #[.pointer (some ⟨g, 0, none⟩)]] w fun e w' => ∃ r : Int, e = .returned (.int .i64 r) ∧ Hid (decide (0 ≤ r) = zs.any p) ∧ Hid (Below w.heap.size w w') := by
  have HP := Lib.hid hp
  have HRW := Lib.hid hr
  clear hp hr
  obtain ⟨L, hL⟩ : ∃ L, L = zs.length := ⟨_, rfl⟩
  rw [← hL] at hl ⊢
  have HL := Lib.hid hL
  clear hL
  obtain ⟨R, hR⟩ : ∃ R, R = zs.any p := ⟨_, rfl⟩
  rw [← hR]
  have HR := Lib.hid hR
  clear hR
  go_enter Tryd.func39, Tryd.ntmps39
  go_wp2_with fail
  go_loopw [8] (fun v wr => ∃ k : Nat, k ≤ L ∧ v = .int .i64 (k : Int) ∧ Hid (∀ j, j < k → p (zs.getD j 0) = false) ∧ Hid (Below w.heap.size w wr)) (fun v _ => L - (intOf v).toNat)
  case atStart => exact ⟨0, Nat.zero_le _, rfl, fun j hj => by omega, Below.refl _ _⟩
  case round =>
    obtain ⟨k, hk, rfl, hno, hb⟩ := hrel
    by_cases hlt : k < L
    · have hltI : (k : Int) < (L : Int) := by omega
      obtain ⟨b, off, hA, hbl, hc⟩ := (HRW.out.below hb.out) k (by rw [← HL.out]; exact hlt)
      have HC := Lib.hid (HP.out wr k (by rw [← HL.out]; exact hlt) hb.out)
      have HNX : Hid (p (zs.getD k 0) = false → ∀ j, j < k + 1 → p (zs.getD j 0) = false) := fun h j hj => by
        rcases Nat.lt_or_ge j k with h' | h'
        · exact hno.out j h'
        · obtain rfl : j = k := by omega
          exact h
      have HYS : Hid (p (zs.getD k 0) = true → R = true) := fun h => by rw [HR.out]; exact any_some (by rw [← HL.out]; exact hlt) h
      generalize zs.getD k 0 = x at hc HC HNX HYS
      generalize p x = px at HC HNX HYS
      subst hA
      go_wp2_with fail
      refine HC.out.mono ?_
      rintro e w2 ⟨rfl, hb2⟩
      have HB2 : Hid (Below w.heap.size w w2) := hb.out.trans (hb2.out.mono hb.out.size)
      clear hb2 HC
      cases px
      · go_wp2_with fail
        go_roundw
        case rel => exact ⟨k + 1, by omega, by go_num, HNX.out (by simp), HB2.out⟩
        case measure => simp [intOf]; omega
      · go_wp2_with fail
        go_ret
        exact ⟨_, rfl, by show _ = _; rw [HYS.out (by simp)]; exact decide_eq_true (by omega), HB2.out⟩
    · obtain rfl : k = L := by omega
      have HF : Hid (R = false) := by
        show _ = _
        rw [HR.out]
        exact any_none fun j hj => hno.out j (by rw [HL.out]; exact hj)
      go_wp2_with fail
      go_ret
      exact ⟨-1, rfl, by show _ = _; rw [HF.out]; rfl, hb.out⟩
theorem contains_kid (A : Option Addr) (c g : Nat) (zs : List Int) (p : Int → Bool) (w : World) (hr : Row w A zs) (hl : zs.length ≤ 1048576)
    (hp : ∀ W i, i < zs.length → Below w.heap.size w W → Calls Tryd.prog 37 #[.int .i64 (zs.getD i 0), .pointer (some ⟨g, 0, none⟩)] W fun e w' => e = .returned (.bool (p (zs.getD i 0))) ∧ Hid (Below W.heap.size W w')) :
    Calls Tryd.prog 25 #[.slice A zs.length c, .func (.func 37) #[] #[.pointer (some ⟨g, 0, none⟩)]] w fun e w' => e = .returned (.bool (zs.any p)) ∧ Hid (Below w.heap.size w w') := by
  have HI := Lib.hid (index_kid A c g zs p w hr hl hp)
  clear hp hr
  generalize zs.any p = R at HI ⊢
  generalize zs.length = L at HI ⊢
  go_enter Tryd.func25, Tryd.ntmps25
  go_wp2_with fail
  refine HI.out.mono ?_
  rintro e w1 ⟨r, rfl, hd, hb⟩
  have HD := Lib.hid hd.out
  clear hd HI
  go_wp2_with fail
  go_ret
  exact ⟨by rw [← HD.out]; rfl, hb⟩
set_option maxHeartbeats 800000 in
theorem index_use (A : Option Addr) (c g : Nat) (zs : List Int) (p : Int → Bool) (w : World) (hr : Row w A zs) (hl : zs.length ≤ 1048576)
    (hp : ∀ W i, i < zs.length → Below w.heap.size w W → Calls Tryd.prog 27 #[.int .i64 (zs.getD i 0), .pointer (some ⟨g, 0, none⟩)] W fun e w' => e = .returned (.bool (p (zs.getD i 0))) ∧ Hid (Below W.heap.size W w')) :
    Calls Tryd.prog 39 #[.slice A zs.length c, .func (.func 27) #[] #[.pointer (some ⟨g, 0, none⟩)]] w fun e w' => ∃ r : Int, e = .returned (.int .i64 r) ∧ Hid (decide (0 ≤ r) = zs.any p) ∧ Hid (Below w.heap.size w w') := by
  have HP := Lib.hid hp
  have HRW := Lib.hid hr
  clear hp hr
  obtain ⟨L, hL⟩ : ∃ L, L = zs.length := ⟨_, rfl⟩
  rw [← hL] at hl ⊢
  have HL := Lib.hid hL
  clear hL
  obtain ⟨R, hR⟩ : ∃ R, R = zs.any p := ⟨_, rfl⟩
  rw [← hR]
  have HR := Lib.hid hR
  clear hR
  go_enter Tryd.func39, Tryd.ntmps39
  go_wp2_with fail
  go_loopw [8] (fun v wr => ∃ k : Nat, k ≤ L ∧ v = .int .i64 (k : Int) ∧ Hid (∀ j, j < k → p (zs.getD j 0) = false) ∧ Hid (Below w.heap.size w wr)) (fun v _ => L - (intOf v).toNat)
  case atStart => exact ⟨0, Nat.zero_le _, rfl, fun j hj => by omega, Below.refl _ _⟩
  case round =>
    obtain ⟨k, hk, rfl, hno, hb⟩ := hrel
    by_cases hlt : k < L
    · have hltI : (k : Int) < (L : Int) := by omega
      obtain ⟨b, off, hA, hbl, hc⟩ := (HRW.out.below hb.out) k (by rw [← HL.out]; exact hlt)
      have HC := Lib.hid (HP.out wr k (by rw [← HL.out]; exact hlt) hb.out)
      have HNX : Hid (p (zs.getD k 0) = false → ∀ j, j < k + 1 → p (zs.getD j 0) = false) := fun h j hj => by
        rcases Nat.lt_or_ge j k with h' | h'
        · exact hno.out j h'
        · obtain rfl : j = k := by omega
          exact h
      have HYS : Hid (p (zs.getD k 0) = true → R = true) := fun h => by rw [HR.out]; exact any_some (by rw [← HL.out]; exact hlt) h
      generalize zs.getD k 0 = x at hc HC HNX HYS
      generalize p x = px at HC HNX HYS
      subst hA
      go_wp2_with fail
      refine HC.out.mono ?_
      rintro e w2 ⟨rfl, hb2⟩
      have HB2 : Hid (Below w.heap.size w w2) := hb.out.trans (hb2.out.mono hb.out.size)
      clear hb2 HC
      cases px
      · go_wp2_with fail
        go_roundw
        case rel => exact ⟨k + 1, by omega, by go_num, HNX.out (by simp), HB2.out⟩
        case measure => simp [intOf]; omega
      · go_wp2_with fail
        go_ret
        exact ⟨_, rfl, by show _ = _; rw [HYS.out (by simp)]; exact decide_eq_true (by omega), HB2.out⟩
    · obtain rfl : k = L := by omega
      have HF : Hid (R = false) := by
        show _ = _
        rw [HR.out]
        exact any_none fun j hj => hno.out j (by rw [HL.out]; exact hj)
      go_wp2_with fail
      go_ret
      exact ⟨-1, rfl, by show _ = _; rw [HF.out]; rfl, hb.out⟩
theorem contains_use (A : Option Addr) (c g : Nat) (zs : List Int) (p : Int → Bool) (w : World) (hr : Row w A zs) (hl : zs.length ≤ 1048576)
    (hp : ∀ W i, i < zs.length → Below w.heap.size w W → Calls Tryd.prog 27 #[.int .i64 (zs.getD i 0), .pointer (some ⟨g, 0, none⟩)] W fun e w' => e = .returned (.bool (p (zs.getD i 0))) ∧ Hid (Below W.heap.size W w')) :
    Calls Tryd.prog 25 #[.slice A zs.length c, .func (.func 27) #[] #[.pointer (some ⟨g, 0, none⟩)]] w fun e w' => e = .returned (.bool (zs.any p)) ∧ Hid (Below w.heap.size w w') := by
  have HI := Lib.hid (index_use A c g zs p w hr hl hp)
  clear hp hr
  generalize zs.any p = R at HI ⊢
  generalize zs.length = L at HI ⊢
  go_enter Tryd.func25, Tryd.ntmps25
  go_wp2_with fail
  refine HI.out.mono ?_
  rintro e w1 ⟨r, rfl, hd, hb⟩
  have HD := Lib.hid hd.out
  clear hd HI
  go_wp2_with fail
  go_ret
  exact ⟨by rw [← HD.out]; rfl, hb⟩
end Go.Proofs.YtpgncjfmaeiaaaaDoor.Is
