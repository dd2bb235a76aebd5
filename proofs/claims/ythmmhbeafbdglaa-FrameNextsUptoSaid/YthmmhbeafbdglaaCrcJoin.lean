import Derived.Test.YthmmhbeafbdglaaCrcAlive
import Derived.Deep.LoopGhost
namespace Go.Proofs.Ythmmhbeafbdglaa
open Go.RowKit
theorem and1_i64 (l : Nat) (h : l ≤ 9223372036854775807) : bits .and .i64 (l : Int) 1 = ((l % 2 : Nat) : Int) := by
  have e1 : BitVec.ofInt 64 (l : Int) = BitVec.ofNat 64 l := by simp
  have e2 : BitVec.ofInt 64 (1 : Int) = BitVec.ofNat 64 1 := by decide
  unfold bits
  show IntKind.i64.wrap (((BitVec.ofInt 64 (l : Int)) &&& (BitVec.ofInt 64 1)).toNat : Nat) = _
  rw [e1, e2, BitVec.toNat_and, BitVec.toNat_ofNat, BitVec.toNat_ofNat, Nat.mod_eq_of_lt (by omega : l < 2 ^ 64), show 1 % 2 ^ 64 = 1 from rfl, Nat.and_one_is_mod]
  rcases Nat.mod_two_eq_zero_or_one l with h | h <;> rw [h] <;> decide
theorem wrap_double (x : Nat) : IntKind.u32.wrap ((x : Int) * 2) = ((x * 2 % 4294967296 : Nat) : Int) := by
  have : IntKind.u32.wrap ((x : Int) * 2) = ((x : Int) * 2) % 4294967296 := by simp [IntKind.wrap, IntKind.bits, IntKind.signed]
  rw [this]; omega
theorem dbl_mod (x k : Nat) (hk : k < 32) (h : x % 2 ^ (32 - (k + 1)) = 0) : x * 2 % 4294967296 % 2 ^ (32 - k) = 0 := by
  obtain ⟨q, hq⟩ := Nat.dvd_of_mod_eq_zero h
  have e : x * 2 = 2 ^ (32 - k) * q := by
    rw [hq, show 32 - k = (32 - (k + 1)) + 1 by omega, Nat.pow_succ]
    rw [Nat.mul_assoc, Nat.mul_comm q 2, ← Nat.mul_assoc]
  have hd : 2 ^ (32 - k) ∣ 4294967296 := ⟨2 ^ k, by rw [← Nat.pow_add, show 32 - k + k = 32 by omega]⟩
  rw [Nat.mod_mod_of_dvd _ hd, e, Nat.mul_mod_right]

set_option maxHeartbeats 400000 in
theorem product_any (a b : Nat) (w : World) (ha : a < 4294967296) (hb : b < 4294967296) :
    Calls Try.prog 38 #[.int .u32 a, .int .u32 b] w fun e w' => e = .returned (.int .u32 (Crc.prod a b : Nat)) ∧ w = w' := by
  go_enter Try.func38, Try.ntmps38
  go_wp2_with fail
  go_loopg [0, 1, 5] 32 (fun g sa sb sp wr => w = wr ∧ ∃ (x y p : Nat), g ≤ 32 ∧ sa = .int .u32 x ∧ sb = .int .u32 y ∧ sp = .int .u32 p ∧ x < 4294967296 ∧ y < 4294967296 ∧ p < 4294967296 ∧ Hid (x % 2 ^ (32 - g) = 0) ∧ Hid (Crc.prodl g x y p = Crc.prod a b))
  case atStart => exact ⟨rfl, a, b, 0, by omega, rfl, rfl, rfl, ha, hb, by omega, Nat.mod_one _, rfl⟩
  case round =>
    obtain ⟨rfl, x, y, p, hg, rfl, rfl, rfl, hx, hy, hp, hm, hh⟩ := hrel
    by_cases h0 : x = 0
    · subst h0
      have h1 : p = Crc.prod a b := by rw [← hh.out, Crc.prodl_zero]
      have H1 := Lib.hid h1
      clear h1 hh hm
      go_wp2
      go_ret
      exact ⟨by rw [← H1.out]; rfl, rfl⟩
    · have hg0 : gk ≠ 0 := by
        intro e
        have h2 := hm.out
        rw [e, show 32 - 0 = 32 from rfl, Nat.mod_eq_of_lt (show x < 2 ^ 32 by omega)] at h2
        exact h0 h2
      obtain ⟨n, hn⟩ : ∃ n, gk = n + 1 := ⟨gk - 1, by omega⟩
      have HN := Lib.hid hn
      have ht : ((x : Int) != 0) = true := by simp; omega
      have hd := wrap_double x
      have HD := Lib.hid (dbl_mod x n (by omega) (by have := hm.out; rw [hn] at this; exact this))
      have HE : Hid ((x * 2 % 4294967296 : Nat) < 4294967296) := Nat.mod_lt _ (by omega)
      have HH : Hid (Crc.prodl n (x * 2 % 4294967296) (Crc.half y) (if x / 2147483648 = 1 then p ^^^ y else p) = Crc.prod a b) := by have := hh.out; rw [hn] at this; exact this
      generalize x * 2 % 4294967296 = x2 at hd HD HE HH
      obtain ⟨q1, q2, q3, e1, e2, e3, e4⟩ := half_bits y hy
      have HY := Lib.hid (Crc.half_lt hy)
      clear hm hh hn h0
      by_cases h1 : x / 2147483648 = 1
      · have hc : ((x : Int) / 2147483648 == 1) = true := by simp; omega
        have e5 := xor32 p y hp hy
        have HX := Lib.hid (Crc.xor_lt hp hy)
        rw [if_pos h1] at HH
        clear h1
        generalize p ^^^ y = p2 at e5 HX HH
        generalize Crc.half y = y2 at e4 HY HH
        go_wp2
        go_roundg n
        case measure => have := HN.out; omega
        case rel => exact ⟨rfl, x2, y2, p2, by have := HN.out; omega, rfl, rfl, rfl, HE.out, HY.out, HX.out, HD.out, HH.out⟩
      · have hc : ((x : Int) / 2147483648 == 1) = false := by simp; omega
        rw [if_neg h1] at HH
        clear h1
        generalize Crc.half y = y2 at e4 HY HH
        go_wp2
        go_roundg n
        case measure => have := HN.out; omega
        case rel => exact ⟨rfl, x2, y2, p, by have := HN.out; omega, rfl, rfl, rfl, HE.out, HY.out, hp, HD.out, HH.out⟩

/-- what 'Joined' answers -/
def joined (a b : Nat) (long : Int) : Nat := if long < 1 then a else Crc.halves (8 * long.toNat) a ^^^ b

set_option maxHeartbeats 400000 in
theorem joined_small (a b : Nat) (long : Int) (w : World) (hl : long < 1) :
    Calls Try.prog 20 #[.int .u32 a, .int .u32 b, .int .i64 long] w fun e w' => e = .returned (.int .u32 (joined a b long : Nat)) ∧ w = w' := by
  have hj : joined a b long = a := if_pos hl
  rw [hj]
  clear hj
  go_enter Try.func20, Try.ntmps20
  go_wp2
  go_ret
  exact ⟨rfl, rfl⟩

set_option maxHeartbeats 400000 in
theorem joined_core (a b : Nat) (long : Nat) (w : World) (ha : a < 4294967296) (hb : b < 4294967296) (hl : 1 ≤ long) (hm : long ≤ 9223372036854775807) :
    Calls Try.prog 20 #[.int .u32 a, .int .u32 b, .int .i64 long] w fun e w' => e = .returned (.int .u32 (Crc.halves (8 * long) a ^^^ b : Nat)) ∧ w = w' := by
  go_enter Try.func20, Try.ntmps20
  go_wp2_with fail
  go_loop [2, 7, 8] (fun l pw sq => ∃ (m p s x y : Nat), m ≤ long ∧ l = .int .i64 m ∧ pw = .int .u32 x ∧ sq = .int .u32 y ∧ Hid (x = Crc.halves p Crc.one) ∧ Hid (y = Crc.halves s Crc.one) ∧ Hid (p + m * s = 8 * long)) (fun l _ _ => (intOf l).toNat)
  case atStart => exact ⟨long, 0, 8, _, _, Nat.le_refl _, rfl, rfl, rfl, rfl, Crc.halves8.symm, by show 0 + long * 8 = _; omega⟩
  case round =>
    obtain ⟨m, p, s, x, y, hml, rfl, rfl, rfl, hx, hy, hh⟩ := hrel
    have hxl : x < 4294967296 := by rw [hx.out]; exact Crc.halves_lt p (by decide)
    have hyl : y < 4294967296 := by rw [hy.out]; exact Crc.halves_lt s (by decide)
    by_cases h0 : m = 0
    · subst h0
      have hp : x = Crc.halves (8 * long) Crc.one := by have := hh.out; rw [Nat.zero_mul, Nat.add_zero] at this; rw [← this]; exact hx.out
      have hxa : Crc.prod x a = Crc.halves (8 * long) a := by rw [hp, Crc.prod_halves _ _ ha]
      have hlt : Crc.halves (8 * long) a < 4294967296 := Crc.halves_lt _ ha
      have hxr := xor32 _ b hlt hb
      have HP := Lib.hid hxa
      clear hxa hp hh hx hy
      go_wp2_with fail
      refine (product_any _ _ _ hxl ha).mono ?_
      rintro e w2 ⟨rfl, rfl⟩
      rw [HP.out]
      go_wp2_with fail
      go_ret
      exact ⟨rfl, rfl⟩
    · have hyy : Crc.prod y y = Crc.halves (s + s) Crc.one := by rw [hy.out, Crc.prod_powers]
      have hand := and1_i64 m (by omega)
      rcases Nat.mod_two_eq_zero_or_one m with hm2 | hm2
      · rw [hm2] at hand
        have HM : Hid (p + (m / 2) * (s + s) = 8 * long) := by
          have h1 := hh.out
          have h2 : m = 2 * (m / 2) := by omega
          rw [h2] at h1
          rw [← h1, Nat.mul_comm 2, Nat.mul_assoc, show 2 * s = s + s by omega]
          rfl
        have HYY := Lib.hid hyy
        clear hyy hh hm2
        go_wp2_with fail
        refine (product_any _ _ _ hyl hyl).mono ?_
        rintro e w2 ⟨rfl, rfl⟩
        go_wp2_with fail
        go_round
        case rel => exact ⟨m / 2, p, s + s, x, _, by omega, by go_num, rfl, rfl, hx, HYY, HM⟩
        case measure => simp [intOf]; omega
      · rw [hm2] at hand
        have hxy : Crc.prod x y = Crc.halves (p + s) Crc.one := by rw [hx.out, hy.out, Crc.prod_powers]
        have HM : Hid (p + s + (m / 2) * (s + s) = 8 * long) := by
          have h1 := hh.out
          have h2 : m = 2 * (m / 2) + 1 := by omega
          rw [h2, Nat.add_mul, Nat.one_mul] at h1
          rw [← h1, Nat.mul_comm 2, Nat.mul_assoc, show 2 * s = s + s by omega]
          show p + s + (m / 2) * (s + s) = p + ((m / 2) * (s + s) + s)
          omega
        have HYY := Lib.hid hyy
        have HXY := Lib.hid hxy
        clear hyy hxy hh hm2
        go_wp2_with fail
        refine (product_any _ _ _ hxl hyl).mono ?_
        rintro e w2 ⟨rfl, rfl⟩
        go_wp2_with fail
        refine (product_any _ _ _ hyl hyl).mono ?_
        rintro e w2 ⟨rfl, rfl⟩
        go_wp2_with fail
        go_round
        case rel => exact ⟨m / 2, p + s, s + s, _, _, by omega, by go_num, rfl, rfl, HXY, HYY, HM⟩
        case measure => simp [intOf]; omega

theorem joined_any (a b : Nat) (long : Int) (w : World) (ha : a < 4294967296) (hb : b < 4294967296) (hm : long ≤ 9223372036854775807) :
    Calls Try.prog 20 #[.int .u32 a, .int .u32 b, .int .i64 long] w fun e w' => e = .returned (.int .u32 (joined a b long : Nat)) ∧ w = w' := by
  by_cases h : long < 1
  · exact joined_small a b long w h
  · obtain ⟨n, rfl⟩ : ∃ n : Nat, long = n := ⟨long.toNat, by omega⟩
    have e : joined a b n = Crc.halves (8 * n) a ^^^ b := if_neg h
    rw [e]
    exact joined_core a b n w ha hb (by omega) (by omega)

set_option maxHeartbeats 400000 in
theorem rjoined_small (a b : Nat) (long : Int) (w : World) (hl : long < 1) :
    Calls Try.prog 21 #[.int .u32 a, .int .u32 b, .int .i64 long] w fun e w' => e = .returned (.int .u32 (joined a b long : Nat)) ∧ w = w' := by
  have hj : joined a b long = a := if_pos hl
  rw [hj]
  clear hj
  go_enter Try.func21, Try.ntmps21
  go_wp2
  go_ret
  exact ⟨rfl, rfl⟩

set_option maxHeartbeats 400000 in
theorem rjoined_core (a b : Nat) (long : Nat) (w : World) (ha : a < 4294967296) (hb : b < 4294967296) (hl : 1 ≤ long) (hm : long ≤ 9223372036854775807) :
    Calls Try.prog 21 #[.int .u32 a, .int .u32 b, .int .i64 long] w fun e w' => e = .returned (.int .u32 (Crc.halves (8 * long) a ^^^ b : Nat)) ∧ w = w' := by
  go_enter Try.func21, Try.ntmps21
  go_wp2_with fail
  go_loop [0, 7] (fun x i => ∃ (k y : Nat), k ≤ long ∧ i = .int .i64 k ∧ x = .int .u32 y ∧ Hid (y = Crc.halves (8 * k) a)) (fun _ i => long - (intOf i).toNat)
  case atStart => exact ⟨0, a, Nat.zero_le _, rfl, rfl, rfl⟩
  case round =>
    obtain ⟨k, y, hk, rfl, rfl, hy⟩ := hrel
    have hyl : y < 4294967296 := by rw [hy.out]; exact Crc.halves_lt _ ha
    by_cases hlt : k < long
    · have HY : Hid (Crc.halves 8 y = Crc.halves (8 * (k + 1)) a) := by
        show Crc.halves 8 y = _
        rw [hy.out, ← Crc.halves_add]
        congr 1
        omega
      clear hy
      go_wp2_with fail
      go_loop [0, 8] (fun x j => ∃ (p n : Nat), n ≤ 8 ∧ j = .int .i64 n ∧ p < 4294967296 ∧ x = .int .u32 p ∧ Hid (Crc.halves (8 - n) p = Crc.halves 8 y)) (fun _ j => 8 - (intOf j).toNat)
      case atStart => exact ⟨y, 0, by omega, rfl, hyl, rfl, rfl⟩
      case round =>
        obtain ⟨p, n, hn, rfl, hp, rfl, hh⟩ := hrel
        by_cases hn8 : n < 8
        · go_wp2_with (go_at_call 39; refine (rhalf_any _ _ hp).mono ?_; rintro e w2 ⟨rfl, rfl⟩)
          go_round
          case rel => exact ⟨Crc.half p, n + 1, by omega, by go_num, Crc.half_lt hp, rfl, by
            have h5 := hh.out
            rw [show 8 - n = (8 - (n + 1)) + 1 by omega] at h5
            exact h5⟩
          case measure => simp [intOf]; omega
        · obtain rfl : n = 8 := by omega
          go_wp2_with fail
          go_round
          case rel => exact ⟨k + 1, p, by omega, by go_num, rfl, by
            have h5 : p = Crc.halves 8 y := hh.out
            exact h5.trans HY.out⟩
          case measure => simp [intOf]; omega
    · obtain rfl : k = long := by omega
      have hxr := xor32 y b hyl hb
      rw [hy.out] at hxr hyl ⊢
      clear hy
      go_wp2
      go_ret
      exact ⟨rfl, rfl⟩

theorem rjoined_any (a b : Nat) (long : Int) (w : World) (ha : a < 4294967296) (hb : b < 4294967296) (hm : long ≤ 9223372036854775807) :
    Calls Try.prog 21 #[.int .u32 a, .int .u32 b, .int .i64 long] w fun e w' => e = .returned (.int .u32 (joined a b long : Nat)) ∧ w = w' := by
  by_cases h : long < 1
  · exact rjoined_small a b long w h
  · obtain ⟨n, rfl⟩ : ∃ n : Nat, long = n := ⟨long.toNat, by omega⟩
    have e : joined a b n = Crc.halves (8 * n) a ^^^ b := if_neg h
    rw [e]
    exact rjoined_core a b n w ha hb (by omega) (by omega)
end Go.Proofs.Ythmmhbeafbdglaa
