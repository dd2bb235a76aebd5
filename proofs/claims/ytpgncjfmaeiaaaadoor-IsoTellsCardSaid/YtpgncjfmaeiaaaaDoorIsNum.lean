/- Numbers' texts: plainly, digit by digit; then the document's side, walked: a number's text, a text's number. Conditions: none but the text's size. -/
import Derived.Test.YtpgncjfmaeiaaaaDoorIsText
set_option linter.unusedVariables false
namespace Go.Proofs.YtpgncjfmaeiaaaaDoor.Is
open Go.Lib (decDigits itoa parseUint10 parseMag atoiAll)
theorem digNat {d : Nat} (h : d < 10) : (UInt8.ofNat (48 + d)).toNat = 48 + d := by
  rw [UInt8.toNat_ofNat']
  omega
theorem wrap_rng (n : Int) : -9223372036854775808 ≤ IntKind.i64.wrap n ∧ IntKind.i64.wrap n ≤ 9223372036854775807 := by
  rw [IntKind.wrap_i64]
  omega
theorem parse_app : ∀ (l : List UInt8) (acc u : Nat) (c : UInt8), parseUint10 acc l = .ok u → parseUint10 acc (l ++ [c]) = parseUint10 u [c]
  | [], acc, u, c, h => by
    simp only [parseUint10] at h
    injection h with h
    subst h
    rfl
  | d :: r, acc, u, c, h => by
    rw [List.cons_append]
    rw [parseUint10] at h ⊢
    by_cases h1 : 48 ≤ d.toNat ∧ d.toNat ≤ 57
    · rw [if_pos h1] at h ⊢
      by_cases h2 : 1844674407370955162 ≤ acc
      · rw [if_pos h2] at h; cases h
      · rw [if_neg h2] at h ⊢
        by_cases h3 : 18446744073709551616 ≤ acc * 10 + (d.toNat - 48)
        · rw [if_pos h3] at h; cases h
        · rw [if_neg h3] at h ⊢
          exact parse_app r _ u c h
    · rw [if_neg h1] at h; cases h
theorem dec_ne (u : Nat) : decDigits u ≠ [] := by
  rw [decDigits]
  split <;> simp
theorem dec_parse (u : Nat) : u < 18446744073709551616 → parseUint10 0 (decDigits u) = .ok u := by
  induction u using Nat.strongRecOn with
  | _ u ih =>
    intro hu
    rw [decDigits]
    by_cases h : u < 10
    · rw [dif_pos h, parseUint10, digNat h, if_pos ⟨by omega, by omega⟩, if_neg (by omega), if_neg (by omega), parseUint10]
      congr 1
      omega
    · rw [dif_neg h, parse_app _ _ _ _ (ih (u / 10) (by omega) (by omega)), parseUint10, digNat (by omega), if_pos ⟨by omega, by omega⟩, if_neg (by omega), if_neg (by omega), parseUint10]
      congr 1
      omega
theorem dec_head (u : Nat) : ∃ c r, decDigits u = c :: r ∧ 48 ≤ c.toNat ∧ c.toNat ≤ 57 := by
  induction u using Nat.strongRecOn with
  | _ u ih =>
    rw [decDigits]
    by_cases h : u < 10
    · rw [dif_pos h]
      exact ⟨_, _, rfl, by rw [digNat h]; omega, by rw [digNat h]; omega⟩
    · rw [dif_neg h]
      obtain ⟨c, r, e, h1, h2⟩ := ih (u / 10) (by omega)
      rw [e]
      exact ⟨c, _, rfl, h1, h2⟩
theorem atoi_itoa {v : Int} (h1 : -9223372036854775808 ≤ v) (h2 : v ≤ 9223372036854775807) : atoiAll (itoa v) = .ok v := by
  unfold itoa
  by_cases h : v < 0
  · rw [if_pos h, Lib.atoiAll_minus, parseMag, if_neg (dec_ne _), dec_parse _ (by omega)]
    show (if 9223372036854775808 < v.natAbs then _ else _) = _
    rw [if_neg (by omega)]
    congr 1
    omega
  · rw [if_neg h]
    obtain ⟨c, r, e, g1, g2⟩ := dec_head v.toNat
    have hp := dec_parse v.toNat (by omega)
    have hn := dec_ne v.toNat
    rw [e] at hp hn ⊢
    rw [Lib.atoiAll_plain c r (by omega) (by omega), parseMag, if_neg hn, hp]
    show (if 9223372036854775808 ≤ v.toNat then _ else _) = _
    rw [if_neg (by omega)]
    congr 1
    omega
/-- digit by digit, below 0 -/
def numF : List UInt8 → Int → Option Int
  | [], n => some n
  | c :: r, n => if 48 ≤ c.toNat ∧ c.toNat ≤ 57 then numF r (IntKind.i64.wrap (IntKind.i64.wrap (n * 10) - ((c.toNat : Int) - 48))) else none
theorem numF_app : ∀ (l : List UInt8) (n m : Int) (c : UInt8), numF l n = some m → numF (l ++ [c]) n = numF [c] m
  | [], n, m, c, h => by
    simp only [numF] at h
    injection h with h
    subst h
    rfl
  | d :: r, n, m, c, h => by
    rw [List.cons_append]
    rw [numF] at h ⊢
    by_cases h1 : 48 ≤ d.toNat ∧ d.toNat ≤ 57
    · rw [if_pos h1] at h ⊢
      exact numF_app r _ m c h
    · rw [if_neg h1] at h; cases h
theorem dec_numF (u : Nat) : u ≤ 9223372036854775808 → numF (decDigits u) 0 = some (-(u : Int)) := by
  induction u using Nat.strongRecOn with
  | _ u ih =>
    intro hu
    rw [decDigits]
    by_cases h : u < 10
    · rw [dif_pos h, numF, digNat h, if_pos ⟨by omega, by omega⟩, numF, show (0 : Int) * 10 = 0 from rfl, show IntKind.i64.wrap 0 = 0 from rfl, IntWalk.i64_in _ ⟨by omega, by omega⟩]
      congr 1
      omega
    · rw [dif_neg h, numF_app _ _ _ _ (ih (u / 10) (by omega) (by omega)), numF, digNat (by omega), if_pos ⟨by omega, by omega⟩, numF, IntWalk.i64_in (-((u / 10 : Nat) : Int) * 10) ⟨by omega, by omega⟩, IntWalk.i64_in _ ⟨by omega, by omega⟩]
      congr 1
      omega
/-- what is left of a text behind its sign -/
def body (l : List UInt8) : List UInt8 := if l.head? = some 45 then l.tail else l
/-- the document's number -/
def numM (l : List UInt8) : Option Int :=
  match numF (body l) 0 with
  | none => none
  | some n => if itoa (if l.head? = some 45 then n else IntKind.i64.wrap (-n)) = l then some (if l.head? = some 45 then n else IntKind.i64.wrap (-n)) else none
def numR (l : List UInt8) : Option Int := if l.length < 1 ∨ 20 < l.length then none else numM l
theorem numF_in : ∀ (l : List UInt8) (n m : Int), numF l n = some m → (-9223372036854775808 ≤ n ∧ n ≤ 9223372036854775807) → (-9223372036854775808 ≤ m ∧ m ≤ 9223372036854775807)
  | [], n, m, h, hn => by
    simp only [numF] at h
    injection h with h
    rw [← h]
    exact hn
  | d :: r, n, m, h, hn => by
    rw [numF] at h
    by_cases h1 : 48 ≤ d.toNat ∧ d.toNat ≤ 57
    · rw [if_pos h1] at h
      refine numF_in r _ m h ?_
      have := wrap_rng (IntKind.i64.wrap (n * 10) - ((d.toNat : Int) - 48))
      omega
    · rw [if_neg h1] at h; cases h
theorem nDig_le (u : Nat) (h : u ≤ 9223372036854775808) : Lib.nDigits u ≤ 19 := by
  rcases Nat.lt_or_ge 19 (Lib.nDigits u) with h1 | h1
  · exfalso
    have h2 : ∀ (k u : Nat), k + 1 < Lib.nDigits u → 10 ^ (k + 1) ≤ u := by
      intro k
      induction k with
      | zero =>
        intro u hu
        rcases Nat.lt_or_ge u 10 with h3 | h3
        · rw [Lib.nDigits_small h3] at hu; omega
        · simpa using h3
      | succ k ih =>
        intro u hu
        rcases Nat.lt_or_ge u 10 with h3 | h3
        · rw [Lib.nDigits_small h3] at hu; omega
        · rw [Lib.nDigits_big (by omega)] at hu
          have := ih (u / 10) (by omega)
          rw [Nat.pow_succ]
          omega
    have h4 := h2 18 u (by omega)
    have : (10 : Nat) ^ 19 = 10000000000000000000 := by decide
    omega
  · exact h1
theorem numR_is (s : ByteArray) : (numR s.data.toList).isSome = numB s := by
  have hT : ∀ v : Int, ((⟨(itoa v).toArray⟩ : ByteArray) = s) ↔ itoa v = s.data.toList := fun v => by
    constructor
    · intro h
      rw [← h]
    · intro h
      rw [h]
  cases hN : numR s.data.toList with
  | some v =>
    have : itoa v = s.data.toList ∧ -9223372036854775808 ≤ v ∧ v ≤ 9223372036854775807 := by
      unfold numR at hN
      split at hN
      · cases hN
      · unfold numM at hN
        cases hf : numF (body s.data.toList) 0 with
        | none => rw [hf] at hN; cases hN
        | some n =>
          rw [hf] at hN
          simp only at hN
          have hb := numF_in _ _ _ hf (by decide)
          have hM : -9223372036854775808 ≤ (if s.data.toList.head? = some 45 then n else IntKind.i64.wrap (-n)) ∧ (if s.data.toList.head? = some 45 then n else IntKind.i64.wrap (-n)) ≤ 9223372036854775807 := by
            split
            · exact hb
            · have := wrap_rng (-n)
              omega
          generalize (if s.data.toList.head? = some 45 then n else IntKind.i64.wrap (-n)) = M at hN hM
          by_cases he : itoa M = s.data.toList
          · rw [if_pos he] at hN
            injection hN with hN
            rw [← hN]
            exact ⟨he, hM⟩
          · rw [if_neg he] at hN
            cases hN
    obtain ⟨h1, h2, h3⟩ := this
    have h4 := atoi_itoa h2 h3
    rw [h1] at h4
    unfold numB
    rw [h4]
    exact (decide_eq_true ((hT v).2 h1)).symm
  | none =>
    unfold numB
    cases ha : atoiAll s.data.toList with
    | ok v =>
      simp only [Option.isSome_none]
      refine Eq.symm (decide_eq_false fun he => ?_)
      have h1 := (hT v).1 he
      have hb := Lib.atoiAll_bounds ha
      rw [← h1] at hN
      clear ha he hT
      unfold numR at hN
      have hl : ¬ ((itoa v).length < 1 ∨ 20 < (itoa v).length) := by
        unfold itoa
        have g1 := nDig_le v.natAbs (by omega)
        have g2 := nDig_le v.toNat (by omega)
        have g3 := Lib.nDigits_pos v.natAbs
        have g4 := Lib.nDigits_pos v.toNat
        split
        · rw [List.length_cons, Lib.decDigits_length]; omega
        · rw [Lib.decDigits_length]; omega
      rw [if_neg hl, numM] at hN
      by_cases hv : v < 0
      · have e : itoa v = 45 :: decDigits v.natAbs := by unfold itoa; rw [if_pos hv]
        have hf : numF (body (itoa v)) 0 = some v := by
          rw [e]
          show numF (decDigits v.natAbs) 0 = _
          rw [dec_numF _ (by omega)]
          congr 1
          omega
        rw [hf] at hN
        simp only at hN
        rw [if_pos (show (itoa v).head? = some 45 by rw [e]; rfl), if_pos rfl] at hN
        cases hN
      · have e : itoa v = decDigits v.toNat := by unfold itoa; rw [if_neg hv]
        obtain ⟨c, r, e2, g1, g2⟩ := dec_head v.toNat
        have hh : ¬ ((itoa v).head? = some 45) := by
          rw [e, e2]
          intro h
          injection h with h
          rw [h] at g1
          exact absurd g1 (by decide)
        have hf : numF (body (itoa v)) 0 = some (-v) := by
          unfold body
          rw [if_neg hh, e, dec_numF _ (by omega)]
          congr 1
          omega
        rw [hf] at hN
        simp only at hN
        rw [if_neg hh, Int.neg_neg, IntWalk.i64_in _ ⟨by omega, by omega⟩, if_pos rfl] at hN
        cases hN
    | _ => rfl
end Go.Proofs.YtpgncjfmaeiaaaaDoor.Is
namespace Go.Proofs.YtpgncjfmaeiaaaaDoor.Is
open Go.RowKit
open Go.Lib (decDigits itoa)
theorem conv_one (w : World) (c : Int) : (convert 103 9 (.slice (some ⟨w.heap.size, 0, none⟩) 1 1)).run Tryd.prog (w.alloc (.cells #[.int .u8 c] 5)) = .ok (.string (strOfNums [c])) (w.alloc (.cells #[.int .u8 c] 5)) :=
  run_convert_bytes_arg _ _ _ Tryd.underlying103 Tryd.underlying5 w.heap.size 0 1 1 [c] rfl (fun i hi => by
    obtain rfl : i = 0 := by omega
    exact bcell (heap_new w _ _) 0) _ Tryd.underlying9
theorem str_cons (c : UInt8) (t : List UInt8) : Value.string (({ data := #[c] } : ByteArray) ++ { data := t.toArray }) = .string ⟨(c :: t).toArray⟩ := by
  congr 1
def StrPost (s : ByteArray) (w : World) (e : Ending) (w' : World) : Prop := e = .returned (.string s) ∧ Below w.heap.size w w'
set_option maxRecDepth 100000 in
set_option maxHeartbeats 1600000 in
theorem rtext_pos (N : Nat) (hN : N ≤ 9223372036854775807) (w : World) : Calls Tryd.prog 58 #[.int .i64 (N : Nat)] w (StrPost ⟨(decDigits N).toArray⟩ w) := by
  have hneg : ¬ ((N : Int) < 0) := by omega
  go_enter Tryd.func58, Tryd.ntmps58
  go_wp2_with fail
  go_loopw [0, 4, 5] (fun n s f wr => ∃ (m : Nat) (t : List UInt8), m ≤ N ∧ n = .int .i64 (m : Nat) ∧ s = .string ⟨t.toArray⟩ ∧ Hid (Below w.heap.size w wr) ∧ ((f = .bool true ∧ m = N ∧ t = []) ∨ (f = .bool false ∧ Hid (decDigits N = (if m = 0 then [] else decDigits m) ++ t)))) (fun n _ f _ => (intOf n).toNat + (match f with | .bool true => 1 | _ => 0))
  case atStart => exact ⟨N, [], Nat.le_refl _, rfl, rfl, Below.refl _ _, Or.inl ⟨rfl, rfl, rfl⟩⟩
  case round =>
    obtain ⟨m, t, hm, rfl, rfl, hv, hcase⟩ := hrel
    obtain ⟨d, hd⟩ : ∃ d : Nat, d = m % 10 := ⟨_, rfl⟩
    obtain ⟨q, hq⟩ : ∃ q : Nat, q = m / 10 := ⟨_, rfl⟩
    have h1 : ((m : Int)).tmod 10 = (d : Int) := by rw [Int.tmod_eq_emod_of_nonneg (by omega)]; omega
    have h2 : ((m : Int)).tdiv 10 = (q : Int) := by rw [Int.tdiv_eq_ediv_of_nonneg (by omega)]; omega
    have hd10 : d < 10 := by omega
    have h3 : IntKind.i64.wrap (48 + (d : Int)) = 48 + (d : Int) := IntWalk.i64_in _ ⟨by omega, by omega⟩
    have h4 : IntKind.u8.wrap (48 + (d : Int)) = 48 + (d : Int) := by rw [IntKind.wrap_u8]; omega
    have h5 : IntKind.i64.wrap (q : Int) = (q : Int) := IntWalk.i64_in _ ⟨by omega, by omega⟩
    have HS : Hid (strOfNums [48 + (d : Int)] = ⟨[UInt8.ofNat (48 + d)].toArray⟩) := by
      show ByteArray.mk [UInt8.ofNat (48 + (d : Int)).toNat].toArray = _
      rw [show (48 + (d : Int)).toNat = 48 + d by omega]
    have HST : Hid (((u5 = Value.bool true ∧ m = N ∧ t = []) ∨ (u5 = Value.bool false ∧ m ≠ 0 ∧ decDigits N = decDigits m ++ t)) → decDigits N = (if q = 0 then [] else decDigits q) ++ (UInt8.ofNat (48 + d) :: t)) := fun h => by
      have h9 : decDigits N = decDigits m ++ t := by
        rcases h with ⟨_, rfl, rfl⟩ | ⟨_, _, h⟩
        · simp
        · exact h
      rw [h9, Lib.decDigits, hq, hd]
      by_cases h10 : m < 10
      · rw [dif_pos h10, if_pos (by omega), show m % 10 = m by omega]
        rfl
      · rw [dif_neg h10, if_neg (by omega), List.append_assoc]
        rfl
    have HQ : Hid (q ≤ m ∧ (m ≠ 0 → q < m)) := ⟨by omega, fun h => by omega⟩
    obtain ⟨cb, hcb⟩ : ∃ cb, cb = UInt8.ofNat (48 + d) := ⟨_, rfl⟩
    rw [← hcb] at HS HST
    have HLT : Hid (decDigits N = (if q = 0 then [] else decDigits q) ++ (cb :: t) → ¬ (9223372036854775807 < 1 + t.length)) := fun h => by
      have h8 := congrArg List.length h
      rw [Lib.decDigits_length, List.length_append, List.length_cons] at h8
      have := nDig_le N (by omega)
      omega
    clear hd hq hcb
    rcases hcase with ⟨rfl, hmN, ht⟩ | ⟨rfl, hD⟩
    · have HX := Lib.hid (HST.out (Or.inl ⟨rfl, hmN, ht⟩))
      have hsz := HLT.out HX.out
      clear HST hmN ht
      have cv := conv_one wr (48 + (d : Int))
      rw [HS.out] at cv
      have B5 : Hid (Below w.heap.size w (wr.alloc (.cells #[.int .u8 (48 + (d : Int))] 5))) := hv.out.alloc hv.out.size _
      go_wp2_with fail
      go_roundw
      case rel => exact ⟨q, cb :: t, by have := HQ.out; omega, rfl, str_cons cb t, B5.out, Or.inr ⟨rfl, HX.out⟩⟩
      case measure => have := HQ.out; simp [intOf]; omega
    · by_cases hm0 : m = 0
      · have HX : Hid (decDigits N = t) := by
          have := hD.out
          rw [if_pos hm0] at this
          exact this
        subst hm0
        clear HST h1 h2 h3 h4 h5 HS hD
        go_wp2_with fail
        go_ret
        exact ⟨by rw [HX.out]; rfl, hv.out⟩
      · have hgt : ((0 : Int) < (m : Int)) := by omega
        have HX := Lib.hid (HST.out (Or.inr ⟨rfl, hm0, by have := hD.out; rw [if_neg hm0] at this; exact this⟩))
        have HM0 := Lib.hid hm0
        have hsz := HLT.out HX.out
        clear HST hm0
        have cv := conv_one wr (48 + (d : Int))
        rw [HS.out] at cv
        have B5 : Hid (Below w.heap.size w (wr.alloc (.cells #[.int .u8 (48 + (d : Int))] 5))) := hv.out.alloc hv.out.size _
        go_wp2_with fail
        go_roundw
        case rel => exact ⟨q, cb :: t, by have := HQ.out; omega, rfl, str_cons cb t, B5.out, Or.inr ⟨rfl, HX.out⟩⟩
        case measure => have := HQ.out; have := HM0.out; simp [intOf]; omega
theorem str_parts0 (c : UInt8) : Value.string ((({ data := #[45] } : ByteArray) ++ { data := #[] }) ++ { data := #[c] }) = .string ⟨(45 :: ([] ++ [c])).toArray⟩ := by
  congr 1
theorem str_parts (c : UInt8) (t : List UInt8) : Value.string ((({ data := #[45] } : ByteArray) ++ { data := t.toArray }) ++ { data := #[c] }) = .string ⟨(45 :: (t ++ [c])).toArray⟩ := by
  congr 1
set_option maxRecDepth 100000 in
set_option maxHeartbeats 1600000 in
theorem rtext_any (n : Int) (hn : -9223372036854775808 ≤ n ∧ n ≤ 9223372036854775807) (w : World) : Calls Tryd.prog 58 #[.int .i64 n] w (StrPost ⟨(itoa n).toArray⟩ w) := by
  by_cases h0 : n < 0
  · obtain ⟨d, hd⟩ : ∃ d : Nat, d = n.natAbs % 10 := ⟨_, rfl⟩
    obtain ⟨q, hq⟩ : ∃ q : Nat, q = n.natAbs / 10 := ⟨_, rfl⟩
    have h1 : n.tmod 10 = -(d : Int) := by
      have e : n = -((n.natAbs : Nat) : Int) := by omega
      rw [hd, e, Int.neg_tmod, Int.tmod_eq_emod_of_nonneg (by omega), Int.natAbs_neg, Int.natAbs_natCast]
      omega
    have h2 : n.tdiv 10 = -(q : Int) := by
      have e : n = -((n.natAbs : Nat) : Int) := by omega
      rw [hq, e, Int.neg_tdiv, Int.tdiv_eq_ediv_of_nonneg (by omega), Int.natAbs_neg, Int.natAbs_natCast]
      omega
    have hd10 : d < 10 := by omega
    have hqb : q ≤ 922337203685477580 := by omega
    have h3 : IntKind.i64.wrap (48 + (d : Int)) = 48 + (d : Int) := IntWalk.i64_in _ ⟨by omega, by omega⟩
    have h3b : IntKind.i64.wrap (48 - -(d : Int)) = 48 + (d : Int) := by rw [show (48 - -(d : Int)) = 48 + (d : Int) by omega]; exact h3
    have h4 : IntKind.u8.wrap (48 + (d : Int)) = 48 + (d : Int) := by rw [IntKind.wrap_u8]; omega
    have h5 : IntKind.i64.wrap (q : Int) = (q : Int) := IntWalk.i64_in _ ⟨by omega, by omega⟩
    have h6 : IntKind.i64.wrap (-(q : Int)) = -(q : Int) := IntWalk.i64_in _ ⟨by omega, by omega⟩
    have h7 : IntKind.i64.wrap (-(d : Int)) = -(d : Int) := IntWalk.i64_in _ ⟨by omega, by omega⟩
    have HS : Hid (strOfNums [48 + (d : Int)] = ⟨[UInt8.ofNat (48 + d)].toArray⟩) := by
      show ByteArray.mk [UInt8.ofNat (48 + (d : Int)).toNat].toArray = _
      rw [show (48 + (d : Int)).toNat = 48 + d by omega]
    obtain ⟨cb, hcb⟩ : ∃ cb, cb = UInt8.ofNat (48 + d) := ⟨_, rfl⟩
    rw [← hcb] at HS
    have cv : Hid (∀ W : World, (convert 103 9 (.slice (some ⟨W.heap.size, 0, none⟩) 1 1)).run Tryd.prog (W.alloc (.cells #[.int .u8 (48 + (d : Int))] 5)) = .ok (.string ⟨[cb].toArray⟩) (W.alloc (.cells #[.int .u8 (48 + (d : Int))] 5))) := fun W => by
      rw [← HS.out]; exact conv_one W _
    by_cases h10 : n ≤ -10
    · have HQ := Lib.hid (rtext_pos q (by omega))
      have HX : Hid (itoa n = 45 :: (decDigits q ++ [cb])) := by
        show _ = _
        unfold itoa
        rw [if_pos h0, Lib.decDigits, dif_neg (by omega), hcb, hd, hq]
      have hsz : (decDigits q).length ≤ 19 := by rw [Lib.decDigits_length]; exact nDig_le q (by omega)
      rw [HX.out]
      generalize decDigits q = t at HQ hsz
      have hsz2 : ¬ (9223372036854775807 < 1 + t.length) := by omega
      have hsz3 : ¬ (9223372036854775807 < 1 + t.length + 1) := by omega
      clear hd hq hcb HX HS
      go_enter Tryd.func58, Tryd.ntmps58
      go_wp2_with (go_at_call 58; (with_reducible refine (HQ.out _).mono ?_); rintro e w2 ⟨rfl, hb⟩; have HB := Lib.hid hb; clear hb; have cv2 := cv.out w2)
      rw [str_parts]
      go_ret
      exact ⟨rfl, HB.out.alloc HB.out.size _⟩
    · have HX : Hid (itoa n = 45 :: ([] ++ [cb])) := by
        show _ = _
        unfold itoa
        rw [if_pos h0, Lib.decDigits, dif_pos (by omega), hcb, hd, show n.natAbs % 10 = n.natAbs by omega]
        rfl
      rw [HX.out]
      have cv2 := cv.out w
      clear hd hq hcb HX HS
      go_enter Tryd.func58, Tryd.ntmps58
      go_wp2_with fail
      rw [str_parts0]
      go_ret
      exact ⟨rfl, (Below.refl _ _).alloc (Nat.le_refl _) _⟩
  · obtain ⟨N, rfl⟩ : ∃ N : Nat, n = (N : Int) := ⟨n.toNat, by omega⟩
    have e : itoa (N : Int) = decDigits N := by
      unfold itoa
      rw [if_neg h0, Int.toNat_natCast]
    rw [e]
    exact rtext_pos N (by omega) w
end Go.Proofs.YtpgncjfmaeiaaaaDoor.Is
namespace Go.Proofs.YtpgncjfmaeiaaaaDoor.Is
open Go.RowKit
open Go.Lib (decDigits itoa)
theorem body_step {l : List UInt8} {i : Nat} {n : Int} {c : UInt8} (hc : l[i]? = some c) (h : numF (body l) 0 = if i = 0 then numF (body l) 0 else numF (l.drop i) n) (h0 : i = 0 → n = 0) :
    numF (body l) 0 = if i = 0 ∧ c = 45 then numF (l.drop (i + 1)) n else numF (c :: l.drop (i + 1)) n := by
  have hi : i < l.length := by
    rcases Nat.lt_or_ge i l.length with h' | h'
    · exact h'
    · rw [List.getElem?_eq_none h'] at hc; cases hc
  have hd : l.drop i = c :: l.drop (i + 1) := by
    rw [List.drop_eq_getElem_cons hi]
    congr 1
    rw [List.getElem?_eq_getElem hi] at hc
    injection hc
  by_cases hz : i = 0
  · subst hz
    have hl : l = c :: l.drop 1 := by simpa using hd
    rw [h0 rfl]
    cases l with
    | nil => simp at hi
    | cons d r =>
      have : d = c := by simpa using hl
      subst this
      unfold body
      by_cases h45 : d = 45
      · subst h45
        simp
      · rw [if_neg (by intro e; injection e with e; exact h45 e), if_neg (fun e => h45 e.2)]
        rfl
  · rw [if_neg (fun e => hz e.1), ← hd, h, if_neg hz]
theorem wrap_64 (n : Int) : IntKind.i64.wrap n = wrap64 n := IntWalk.i64_left n
theorem bl_data (s : ByteArray) : s.toList = s.data.toList := by simp [ByteArray.toList_eq]
def RNumPost (r : Option Int) (w : World) (e : Ending) (w' : World) : Prop := ∃ n : Int, e = .returned (.tuple #[.int .i64 n, .bool r.isSome]) ∧ Below w.heap.size w w'
set_option maxRecDepth 100000 in
set_option maxHeartbeats 1600000 in
theorem rnumber_any (s : ByteArray) (w : World) (hs : s.size ≤ 17592186044416) : Calls Tryd.prog 53 #[.string s] w (RNumPost (numR s.data.toList) w) := by
  obtain ⟨R, hR⟩ : ∃ R, R = numR s.data.toList := ⟨_, rfl⟩
  rw [← hR]
  unfold numR at hR
  rw [show s.data.toList.length = s.size from rfl] at hR
  obtain ⟨L, hL⟩ : ∃ L, L = s.size := ⟨_, rfl⟩
  rw [← hL] at hR hs
  have HR := Lib.hid hR
  have HL := Lib.hid hL
  clear hR
  by_cases h1 : L < 1 ∨ 20 < L
  · have HF : Hid (R = none) := by show _ = _; rw [HR.out, if_pos h1]
    by_cases h2 : L < 1
    · have h2I : (L : Int) < 1 := by omega
      rw [hL] at h2I
      clear h1 h2 hs hL
      go_enter Tryd.func53, Tryd.ntmps53
      go_wp2_with fail
      exact bodyPost_ret (v := .tuple #[.int .i64 0, .bool false]) (by simp [results, Tryd.results53, go_sem]) rfl ⟨0, by rw [HF.out]; rfl, Below.refl _ _⟩
    · have h2I : ¬ ((L : Int) < 1) := by omega
      have h3I : (20 : Int) < (L : Int) := by omega
      rw [hL] at h2I h3I
      clear h1 h2 hs hL
      go_enter Tryd.func53, Tryd.ntmps53
      go_wp2_with fail
      exact bodyPost_ret (v := .tuple #[.int .i64 0, .bool false]) (by simp [results, Tryd.results53, go_sem]) rfl ⟨0, by rw [HF.out]; rfl, Below.refl _ _⟩
  · have h2I : ¬ ((L : Int) < 1) := by omega
    have h3I : ¬ ((20 : Int) < (L : Int)) := by omega
    have h2J := h2I
    rw [hL] at h2I h3I
    have HRR : Hid (R = numM s.data.toList) := by
      show _ = _
      rw [HR.out, if_neg h1]
    have hL1 : 1 ≤ L ∧ L ≤ 20 := by omega
    clear h1 hs
    go_enter Tryd.func53, Tryd.ntmps53
    go_wp2_with fail
    go_loopw [4, 5] (fun u v wr => ∃ (i : Nat) (n : Int), i ≤ L ∧ u = .int .i64 n ∧ v = .int .i64 (i : Nat) ∧ Hid (numF (body s.data.toList) 0 = if i = 0 then numF (body s.data.toList) 0 else numF (s.data.toList.drop i) n) ∧ Hid (i = 0 → n = 0) ∧ wr = w) (fun _ v _ => L - (intOf v).toNat)
    case atStart => exact ⟨0, 0, Nat.zero_le _, rfl, rfl, by simp [Hid], fun _ => rfl, rfl⟩
    case round =>
      obtain ⟨i, n, hi, rfl, rfl, hf, h0, rfl⟩ := hrel
      by_cases hlt : i < L
      · have hltI : (i : Int) < (L : Int) := by omega
        rw [hL] at hltI
        have hiL : i < s.size := by omega
        obtain ⟨c, hc⟩ : ∃ c, c = s[i] := ⟨_, rfl⟩
        have hcl : s.data.toList[i]? = some c := by
          rw [hc, Array.getElem?_toList]
          exact Array.getElem?_eq_getElem hiL
        have HST := Lib.hid (body_step hcl hf.out h0.out)
        have hc8 : c.toNat < 256 := c.toNat_lt
        by_cases h45 : i = 0 ∧ c = 45
        · have HX := HST.out
          rw [if_pos h45] at HX
          have HXX := Lib.hid HX
          obtain ⟨rfl, h45c⟩ := h45
          have hcI : s[0].toNat = 45 := by rw [← hc, h45c]; rfl
          clear HX HST hcl hc h45c
          go_wp2_with fail
          go_roundw
          case rel => exact ⟨1, n, by omega, rfl, rfl, by show _ = _; rw [if_neg (by omega)]; exact HXX.out, fun h => absurd h (by omega), trivial⟩
          case measure => simp [intOf]; omega
        · have HX := HST.out
          rw [if_neg h45] at HX
          have HXX := Lib.hid HX
          clear HX HST hcl
          by_cases hi0 : i = 0
          · subst hi0
            have hcI : ¬ (s[0].toNat = 45) := fun e => h45 ⟨rfl, by rw [hc]; exact UInt8.toNat_inj.1 e⟩
            clear h45
            by_cases hb1 : c.toNat < 48
            · have hb1I : (s[0].toNat : Int) < 48 := by rw [← hc]; omega
              have HF : Hid (R = none) := by
                show _ = _
                rw [HRR.out, numM, HXX.out, numF, if_neg (by omega)]
              go_wp2_with fail
              exact bodyPost_ret (v := .tuple #[.int .i64 0, .bool false]) (by simp [results, Tryd.results53, go_sem]) rfl ⟨0, by rw [HF.out]; rfl, Below.refl _ _⟩
            · by_cases hb2 : 57 < c.toNat
              · have hb1I : ¬ ((s[0].toNat : Int) < 48) := by rw [← hc]; omega
                have hb2I : (57 : Int) < (s[0].toNat : Int) := by rw [← hc]; omega
                have HF : Hid (R = none) := by
                  show _ = _
                  rw [HRR.out, numM, HXX.out, numF, if_neg (by omega)]
                go_wp2_with fail
                exact bodyPost_ret (v := .tuple #[.int .i64 0, .bool false]) (by simp [results, Tryd.results53, go_sem]) rfl ⟨0, by rw [HF.out]; rfl, Below.refl _ _⟩
              · have hb1I : ¬ ((s[0].toNat : Int) < 48) := by rw [← hc]; omega
                have hb2I : ¬ ((57 : Int) < (s[0].toNat : Int)) := by rw [← hc]; omega
                have hw8 : IntKind.u8.wrap ((s[0].toNat : Int) - 48) = (s[0].toNat : Int) - 48 := by rw [IntKind.wrap_u8]; omega
                have hw6 : IntKind.i64.wrap ((s[0].toNat : Int) - 48) = (s[0].toNat : Int) - 48 := IntWalk.i64_in _ ⟨by omega, by omega⟩
                have HNX : Hid (numF (body s.data.toList) 0 = numF (s.data.toList.drop (1)) (wrap64 (wrap64 (n * 10) - ((s[0].toNat : Int) - 48)))) := by
                  show _ = _
                  rw [HXX.out, numF, if_pos (by omega), hc, wrap_64, wrap_64]
                clear HXX
                go_wp2_with fail
                go_roundw
                case rel => exact ⟨1, _, by omega, rfl, by go_num, by show _ = _; rw [if_neg (by omega)]; exact HNX.out, fun h => absurd h (by omega), trivial⟩
                case measure => simp [intOf]; omega
          · have hi0I : ¬ ((i : Int) = 0) := by omega
            clear h45
            by_cases hb1 : c.toNat < 48
            · have hb1I : (s[i].toNat : Int) < 48 := by rw [← hc]; omega
              have HF : Hid (R = none) := by
                show _ = _
                rw [HRR.out, numM, HXX.out, numF, if_neg (by omega)]
              go_wp2_with fail
              exact bodyPost_ret (v := .tuple #[.int .i64 0, .bool false]) (by simp [results, Tryd.results53, go_sem]) rfl ⟨0, by rw [HF.out]; rfl, Below.refl _ _⟩
            · by_cases hb2 : 57 < c.toNat
              · have hb1I : ¬ ((s[i].toNat : Int) < 48) := by rw [← hc]; omega
                have hb2I : (57 : Int) < (s[i].toNat : Int) := by rw [← hc]; omega
                have HF : Hid (R = none) := by
                  show _ = _
                  rw [HRR.out, numM, HXX.out, numF, if_neg (by omega)]
                go_wp2_with fail
                exact bodyPost_ret (v := .tuple #[.int .i64 0, .bool false]) (by simp [results, Tryd.results53, go_sem]) rfl ⟨0, by rw [HF.out]; rfl, Below.refl _ _⟩
              · have hb1I : ¬ ((s[i].toNat : Int) < 48) := by rw [← hc]; omega
                have hb2I : ¬ ((57 : Int) < (s[i].toNat : Int)) := by rw [← hc]; omega
                have hw8 : IntKind.u8.wrap ((s[i].toNat : Int) - 48) = (s[i].toNat : Int) - 48 := by rw [IntKind.wrap_u8]; omega
                have hw6 : IntKind.i64.wrap ((s[i].toNat : Int) - 48) = (s[i].toNat : Int) - 48 := IntWalk.i64_in _ ⟨by omega, by omega⟩
                have HNX : Hid (numF (body s.data.toList) 0 = numF (s.data.toList.drop (i + 1)) (wrap64 (wrap64 (n * 10) - ((s[i].toNat : Int) - 48)))) := by
                  show _ = _
                  rw [HXX.out, numF, if_pos (by omega), hc, wrap_64, wrap_64]
                clear HXX
                go_wp2_with fail
                go_roundw
                case rel => exact ⟨i + 1, _, by omega, rfl, by go_num, by show _ = _; rw [if_neg (by omega)]; exact HNX.out, fun h => absurd h (by omega), trivial⟩
                case measure => simp [intOf]; omega
      · obtain rfl : i = L := by omega
        have hltI : ¬ ((i : Int) < (s.size : Int)) := by omega
        have h0L : 0 < s.size := by omega
        have hE : numF (body s.data.toList) 0 = some n := by
          rw [hf.out, if_neg (by omega), List.drop_eq_nil_of_le (by show s.size ≤ i; omega), numF]
        have hb := numF_in _ _ _ hE (by decide)
        have hhd : s.data.toList.head? = some s[0] := by
          rw [List.head?_eq_getElem?, Array.getElem?_toList]
          exact Array.getElem?_eq_getElem h0L
        have HRN : Hid (R = if itoa (if s[0] = 45 then n else wrap64 (-n)) = s.data.toList then some (if s[0] = 45 then n else wrap64 (-n)) else none) := by
          show _ = _
          rw [HRR.out, numM, hE]
          simp only [hhd, Option.some.injEq, wrap_64]
        clear hf h0 hE hhd
        by_cases h45 : s[0] = 45
        · have hcI : s[0].toNat = 45 := by rw [h45]; rfl
          rw [if_pos h45] at HRN
          obtain ⟨N, hN⟩ : ∃ N, N = n := ⟨_, rfl⟩
          rw [← hN] at HRN ⊢
          clear h45
          have HTX := Lib.hid (rtext_any N (by rw [hN]; exact hb) wr)
          by_cases hts : itoa N = s.data.toList
          · have HF : Hid (R = some N) := by show _ = _; rw [HRN.out, if_pos hts]
            rw [hts] at HTX
            clear hN hts HRN
            go_wp2_with (go_at_call 58; (with_reducible refine HTX.out.mono ?_); rintro e w2 ⟨rfl, hb⟩; have HB := Lib.hid hb; clear hb)
            exact bodyPost_ret (v := .tuple #[.int .i64 N, .bool true]) (by simp [results, Tryd.results53, go_sem]) rfl ⟨N, by rw [HF.out]; rfl, HB.out⟩
          · have HF : Hid (R = none) := by show _ = _; rw [HRN.out, if_neg hts]
            have hneS : (((⟨(itoa N).toArray⟩ : ByteArray)).toList == s.toList) = false := by
              rw [beq_eq_false_iff_ne, bl_data, bl_data]
              exact hts
            generalize (⟨(itoa N).toArray⟩ : ByteArray) = t at HTX hneS
            clear hN hts HRN
            go_wp2_with (go_at_call 58; (with_reducible refine HTX.out.mono ?_); rintro e w2 ⟨rfl, hb⟩; have HB := Lib.hid hb; clear hb)
            exact bodyPost_ret (v := .tuple #[.int .i64 0, .bool false]) (by simp [results, Tryd.results53, go_sem]) rfl ⟨0, by rw [HF.out]; rfl, HB.out⟩
        · have hcI : ¬ (s[0].toNat = 45) := fun e => h45 (UInt8.toNat_inj.1 e)
          rw [if_neg h45] at HRN
          obtain ⟨N, hN⟩ : ∃ N, N = wrap64 (-n) := ⟨_, rfl⟩
          rw [← hN] at HRN
          have hwN : IntKind.i64.wrap (-n) = N := by rw [wrap_64]; exact hN.symm
          clear h45
          have HTX := Lib.hid (rtext_any N (by rw [hN]; exact (wrap_64 (-n) ▸ wrap_rng (-n))) wr)
          by_cases hts : itoa N = s.data.toList
          · have HF : Hid (R = some N) := by show _ = _; rw [HRN.out, if_pos hts]
            rw [hts] at HTX
            clear hN hts HRN
            go_wp2_with (go_at_call 58; (with_reducible refine HTX.out.mono ?_); rintro e w2 ⟨rfl, hb⟩; have HB := Lib.hid hb; clear hb)
            exact bodyPost_ret (v := .tuple #[.int .i64 N, .bool true]) (by simp [results, Tryd.results53, go_sem]) rfl ⟨N, by rw [HF.out]; rfl, HB.out⟩
          · have HF : Hid (R = none) := by show _ = _; rw [HRN.out, if_neg hts]
            have hneS : (((⟨(itoa N).toArray⟩ : ByteArray)).toList == s.toList) = false := by
              rw [beq_eq_false_iff_ne, bl_data, bl_data]
              exact hts
            generalize (⟨(itoa N).toArray⟩ : ByteArray) = t at HTX hneS
            clear hN hts HRN
            go_wp2_with (go_at_call 58; (with_reducible refine HTX.out.mono ?_); rintro e w2 ⟨rfl, hb⟩; have HB := Lib.hid hb; clear hb)
            exact bodyPost_ret (v := .tuple #[.int .i64 0, .bool false]) (by simp [results, Tryd.results53, go_sem]) rfl ⟨0, by rw [HF.out]; rfl, HB.out⟩
end Go.Proofs.YtpgncjfmaeiaaaaDoor.Is
