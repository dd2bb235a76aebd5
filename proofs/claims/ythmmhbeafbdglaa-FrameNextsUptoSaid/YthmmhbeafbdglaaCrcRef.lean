import Derived.Test.YthmmhbeafbdglaaCrcAdd
namespace Go.Proofs.Ythmmhbeafbdglaa
open Go.RowKit
set_option maxHeartbeats 400000 in
theorem rhalf_any (x : Nat) (w : World) (hx : x < 4294967296) :
    Calls Try.prog 39 #[.int .u32 x] w fun e w' => e = .returned (.int .u32 (Crc.half x : Nat)) ∧ w = w' := by
  have hd : bits .xor .u32 ((x : Int) / 2) 3988292384 = ((x / 2 ^^^ 3988292384 : Nat) : Int) := by
    have h := u32_xor_nat (x / 2) 3988292384 (by omega) (by omega)
    rw [← h]; congr 1
  rcases Nat.mod_two_eq_zero_or_one x with h | h
  · have h1 : ((x : Int) % 2 == 1) = false := by simp; omega
    have h2 : (x : Int) / 2 = (Crc.half x : Nat) := by unfold Crc.half; rw [if_neg (by omega)]; omega
    have H2 := Lib.hid h2
    clear h2 h hd
    go_enter Try.func39, Try.ntmps39
    go_wp2
    go_ret
    exact ⟨by rw [H2.out]; rfl, rfl⟩
  · have h1 : ((x : Int) % 2 == 1) = true := by simp; omega
    have h2 : (x / 2 ^^^ 3988292384 : Nat) = Crc.half x := by unfold Crc.half; rw [if_pos h]
    rw [h2] at hd
    clear h2 h
    go_enter Try.func39, Try.ntmps39
    go_wp2
    go_ret
    exact ⟨rfl, rfl⟩

set_option maxHeartbeats 400000 in
theorem turned_any (x : Nat) (w : World) (hx : (x : Int) < 4294967296) :
    Calls Try.prog 36 #[.int .u32 x] w fun e w' => e = .returned (.int .u32 (Crc.inv x : Nat)) ∧ w = w' := by
  go_enter Try.func36, Try.ntmps36
  go_wp2
  go_ret
  refine ⟨?_, rfl⟩
  unfold Crc.inv
  rw [show ((4294967295 - x : Nat) : Int) = 4294967295 - (x : Int) by omega]
  rfl

theorem bytes_cell {w : World} {A : Option Addr} {bs : List Nat} (h : BytesAt w A bs) {k : Nat} (hk : k < bs.length) :
    ∃ b off, A = some ⟨b, off, none⟩ ∧ b < w.heap.size ∧ w.cell? ⟨b, off + k, none⟩ = some (.int .u8 (bs.getD k 0 : Nat)) := by
  rcases h with h | ⟨b, off, h1, h2, h3⟩
  · subst h; simp at hk
  · exact ⟨b, off, h1, h2, h3 k hk⟩

set_option maxHeartbeats 400000 in
theorem rbytes_any (x0 : Nat) (A : Option Addr) (cap : Nat) (bs : List Nat) (w : World) (hxl : x0 < 4294967296) (hbs : AllBytes bs) (hlen : bs.length ≤ 9223372036854775807) (hA : BytesAt w A bs) :
    Calls Try.prog 37 #[.int .u32 x0, .slice A bs.length cap] w fun e w' => e = .returned (.int .u32 (Crc.run x0 bs : Nat)) ∧ w = w' := by
  go_enter Try.func37, Try.ntmps37
  go_wp2_with fail
  go_loop [0, 5] (fun x i => ∃ k : Nat, k ≤ bs.length ∧ i = .int .i64 k ∧ x = .int .u32 (Crc.run x0 (bs.take k) : Nat)) (fun _ i => bs.length - (intOf i).toNat)
  case atStart => exact ⟨0, Nat.zero_le _, rfl, rfl⟩
  case round =>
    obtain ⟨k, hk, rfl, rfl⟩ := hrel
    have hrl : Crc.run x0 (bs.take k) < 4294967296 := Crc.run_lt _ hxl (hbs.take k)
    by_cases hlt : k < bs.length
    · have HS := Lib.hid (run_snoc x0 bs k hlt)
      have hcb := hbs.getD k
      obtain ⟨b, off, rfl, _, hc⟩ := bytes_cell hA hlt
      clear hA
      generalize bs.getD k 0 = c at HS hcb hc
      generalize Crc.run x0 (bs.take k) = m at HS hrl ⊢
      have hxc := xor32 m c hrl (by omega)
      have hyl : m ^^^ c < 4294967296 := Crc.xor_lt hrl (by omega)
      have HY : Hid (Crc.stp m c = Crc.halves 8 (m ^^^ c)) := rfl
      generalize m ^^^ c = y at hxc hyl HY
      go_wp2_with fail
      go_loop [0, 6] (fun x j => ∃ (p n : Nat), n ≤ 8 ∧ j = .int .i64 n ∧ p < 4294967296 ∧ x = .int .u32 p ∧ Hid (Crc.halves (8 - n) p = Crc.halves 8 y)) (fun _ j => 8 - (intOf j).toNat)
      case atStart => exact ⟨y, 0, by omega, rfl, hyl, rfl, rfl⟩
      case round =>
        obtain ⟨p, n, hn, rfl, hp, rfl, hh⟩ := hrel
        by_cases hn8 : n < 8
        · go_wp2_with (go_at_call 39; refine (rhalf_any _ _ hp).mono ?_; rintro e w2 ⟨rfl, rfl⟩)
          go_round
          case rel => exact ⟨Crc.half p, n + 1, by omega, by go_num, Crc.half_lt hp, rfl, by
            have h5 := hh.out
            rw [show 8 - n = (8 - (n + 1)) + 1 by omega] at h5
            exact h5⟩
          case measure => simp [intOf]; omega
        · obtain rfl : n = 8 := by omega
          go_wp2_with fail
          go_round
          case rel => exact ⟨k + 1, by omega, by go_num, by rw [HS.out, HY.out, ← hh.out]; rfl⟩
          case measure => simp [intOf]; omega
    · obtain rfl : k = bs.length := by omega
      rw [List.take_length]
      go_wp2
      go_ret
      exact ⟨rfl, rfl⟩

set_option maxHeartbeats 400000 in
theorem radd_any (s : Nat) (A : Option Addr) (cap : Nat) (bs : List Nat) (w : World) (hs : s < 4294967296) (hbs : AllBytes bs) (hlen : bs.length ≤ 9223372036854775807) (hA : BytesAt w A bs) :
    Calls Try.prog 19 #[.int .u32 s, .slice A bs.length cap] w fun e w' => e = .returned (.int .u32 (Crc.inv (Crc.run (Crc.inv s) bs) : Nat)) ∧ w = w' := by
  have h2 := Crc.run_lt bs (inv_lt s) hbs
  have h1 := inv_lt s
  go_enter Try.func19, Try.ntmps19
  go_wp2_with fail
  refine (turned_any _ _ (by omega)).mono ?_
  rintro e w2 ⟨rfl, rfl⟩
  go_wp2_with fail
  refine (rbytes_any _ _ _ _ _ h1 hbs hlen hA).mono ?_
  rintro e w2 ⟨rfl, rfl⟩
  go_wp2_with fail
  refine (turned_any _ _ (by omega)).mono ?_
  rintro e w2 ⟨rfl, rfl⟩
  go_wp2_with fail
  go_ret
  exact ⟨rfl, rfl⟩
end Go.Proofs.Ythmmhbeafbdglaa
