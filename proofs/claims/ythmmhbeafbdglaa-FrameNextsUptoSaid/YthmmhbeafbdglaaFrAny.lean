import Derived.Test.YthmmhbeafbdglaaFrFull
namespace Go.Proofs.Ythmmhbeafbdglaa
open Go.RowKit
theorem nextE_form {bs : List Nat} (h : bs.take 4 ≠ yrec.take bs.length) : nextE bs = 3 := by unfold nextE; rw [if_pos h]
theorem nextE_end {bs : List Nat} (h : bs.take 4 = yrec.take bs.length) (hl : bs.length < 20) : nextE bs = 4 := by unfold nextE; rw [if_neg (by simpa using h), if_pos hl]
theorem seqOf_lt {bs : List Nat} (h : AllBytes bs) : seqOf bs < 18446744073709551616 := valB_lt64 _ ((h.drop 8).take 8) (by simp; omega)
theorem four_lt {bs : List Nat} (h : AllBytes bs) (k : Nat) : valB ((bs.drop k).take 4) < 4294967296 := by
  have h1 := valB_lt _ ((h.drop k).take 4)
  have h2 : 256 ^ ((bs.drop k).take 4).length ≤ 256 ^ 4 := Nat.pow_le_pow_right (by omega) (by simp; omega)
  have h3 : 256 ^ 4 = 4294967296 := by decide
  omega
/-- 'Next' at any bytes -/
theorem next_any (A : Option Addr) (cap : Nat) (bs : List Nat) (w : World) (g : BytesIn w A cap bs) (hlm : bs.length ≤ 140737488355328) :
    Calls Try.prog 26 #[.slice A bs.length cap] w (NextPost bs w) := by
  have hy : ∀ n, 4 ≤ n → yrec.take n = yrec := fun n h => List.take_of_length_le h
  by_cases hm : bs.take 4 = yrec.take bs.length
  · by_cases h4 : bs.length ≤ 4
    · have h1 : bs.take bs.length = yrec.take bs.length := by rw [List.take_length, ← hm, List.take_of_length_le h4]
      refine (next_short_end A cap bs w g (by omega) h1).mono ?_
      rintro e w' ⟨rfl, hb⟩
      exact NextPost.err (k := 4) hb (nextE_end hm (by omega)) (by decide)
    · by_cases h20 : bs.length < 20
      · refine (next_long_end A cap bs w g (by omega) (by omega) (by rw [hm, hy _ (by omega), hy _ (by omega)])).mono ?_
        rintro e w' ⟨rfl, hb⟩
        exact NextPost.err (k := 4) hb (nextE_end hm h20) (by decide)
      · exact next_core A cap bs w g (by omega) (by omega) hm _ _ _ _ rfl rfl rfl rfl (four_lt g.bytes 4) (seqOf_lt g.bytes) (four_lt g.bytes 16)
  · by_cases h4 : bs.length ≤ 4
    · refine (next_short_form A cap bs w g (by omega) (by rw [List.take_length]; intro h; exact hm (by rw [← h, List.take_of_length_le h4]))).mono ?_
      rintro e w' ⟨rfl, hb⟩
      exact NextPost.err (k := 3) hb (nextE_form hm) (by decide)
    · refine (next_long_form A cap bs w g (by omega) (by rw [hy 4 (by omega)]; rw [hy _ (by omega)] at hm; exact hm)).mono ?_
      rintro e w' ⟨rfl, hb⟩
      exact NextPost.err (k := 3) hb (nextE_form hm) (by decide)

/-! ### what was put is what comes next -/
theorem valB_cons (c : Nat) (l : List Nat) : valB (c :: l) = c * 256 ^ l.length + valB l := by
  have key : ∀ (l : List Nat) (x : Nat), l.foldl (fun n c => n * 256 + c) x = x * 256 ^ l.length + valB l := by
    intro l
    induction l with
    | nil => intro x; simp [valB]
    | cons d m ih =>
      intro x
      show m.foldl _ (x * 256 + d) = _
      have e : valB (d :: m) = m.foldl (fun n c => n * 256 + c) (0 * 256 + d) := rfl
      rw [ih, e, ih (0 * 256 + d), List.length_cons, Nat.pow_succ, Nat.add_mul, Nat.zero_mul, Nat.zero_add, Nat.mul_assoc, Nat.mul_comm 256, Nat.add_assoc]
  have e : valB (c :: l) = l.foldl (fun n c => n * 256 + c) (0 * 256 + c) := rfl
  rw [e, key, Nat.zero_mul, Nat.zero_add]
theorem pow4 : 256 ^ 4 = 4294967296 := by decide
theorem pow8 : 256 ^ 8 = 18446744073709551616 := by decide
theorem numB_cons (n v : Nat) : numB (n + 1) v = v / 256 ^ n % 256 :: numB n v := by
  unfold numB
  rw [List.range_succ_eq_map, List.map_cons, List.map_map]
  congr 1
  apply List.map_congr_left
  intro j hj
  show v / 256 ^ (n + 1 - 1 - (j + 1)) % 256 = _
  rw [show n + 1 - 1 - (j + 1) = n - 1 - j by omega]
theorem valB_numB (n : Nat) : ∀ v, valB (numB n v) = v % 256 ^ n := by
  induction n with
  | zero => intro v; simp [numB, valB, Nat.mod_one]
  | succ n ih =>
    intro v
    rw [numB_cons, valB_cons, ih, numB_length, Nat.pow_succ]
    have h := Nat.mod_mul (a := 256 ^ n) (b := 256) (x := v)
    rw [h, Nat.mul_comm (v / 256 ^ n % 256), Nat.add_comm]
theorem frame_split (seq : Nat) (d r : List Nat) : frameB seq d ++ r = yrec ++ (numB 4 d.length ++ (numB 8 seq ++ (numB 4 (sumL [headB seq d, d]) ++ (d ++ r)))) := by
  simp [frameB, headB, yrec]
theorem drop_app {a b : List Nat} {n : Nat} (h : a.length = n) : (a ++ b).drop n = b := by subst h; simp
theorem take_app {a b : List Nat} {n : Nat} (h : a.length = n) : (a ++ b).take n = a := by subst h; simp
theorem frame_parts (seq : Nat) (d r : List Nat) (hs : seq ≤ 4611686018427387904) (hd : d.length ≤ 262144) :
    lenOf (frameB seq d ++ r) = d.length ∧ seqOf (frameB seq d ++ r) = seq ∧ dataOf (frameB seq d ++ r) = d ∧ bodyOf (frameB seq d ++ r) = headB seq d ∧ sumOf (frameB seq d ++ r) = sumL [headB seq d, d] := by
  have e := frame_split seq d r
  have d4 : (frameB seq d ++ r).drop 4 = numB 4 d.length ++ (numB 8 seq ++ (numB 4 (sumL [headB seq d, d]) ++ (d ++ r))) := by rw [e]; exact drop_app rfl
  have d8 : (frameB seq d ++ r).drop 8 = numB 8 seq ++ (numB 4 (sumL [headB seq d, d]) ++ (d ++ r)) := by
    rw [show (8 : Nat) = 4 + 4 from rfl, ← List.drop_drop, d4]; exact drop_app (numB_length 4 _)
  have d16 : (frameB seq d ++ r).drop 16 = numB 4 (sumL [headB seq d, d]) ++ (d ++ r) := by
    rw [show (16 : Nat) = 8 + 8 from rfl, ← List.drop_drop, d8]; exact drop_app (numB_length 8 _)
  have d20 : (frameB seq d ++ r).drop 20 = d ++ r := by
    rw [show (20 : Nat) = 16 + 4 from rfl, ← List.drop_drop, d16]; exact drop_app (numB_length 4 _)
  have h1 : lenOf (frameB seq d ++ r) = d.length := by
    unfold lenOf; rw [d4, take_app (numB_length 4 _), valB_numB]; exact Nat.mod_eq_of_lt (by rw [pow4]; omega)
  refine ⟨h1, ?_, ?_, ?_, ?_⟩
  · unfold seqOf; rw [d8, take_app (numB_length 8 _), valB_numB]; exact Nat.mod_eq_of_lt (by rw [pow8]; omega)
  · unfold dataOf; rw [h1, d20]; exact take_app rfl
  · unfold bodyOf; rw [d4, ← List.append_assoc]; exact take_app (headB_length seq d)
  · unfold sumOf; rw [d16, take_app (numB_length 4 _), valB_numB]; exact Nat.mod_eq_of_lt (sumL_lt _)
theorem frameB_length (seq : Nat) (d : List Nat) : (frameB seq d).length = 20 + d.length := by simp [frameB, headB, numB_length]; omega
theorem frame_next (seq : Nat) (d r : List Nat) (h1 : 1 ≤ seq) (hs : seq ≤ 4611686018427387904) (hd : d.length ≤ 262144) : nextE (frameB seq d ++ r) = 0 := by
  obtain ⟨p1, p2, p3, p4, p5⟩ := frame_parts seq d r hs hd
  have hl : (frameB seq d ++ r).length = 20 + d.length + r.length := by rw [List.length_append, frameB_length]
  have hm : (frameB seq d ++ r).take 4 = yrec.take (frameB seq d ++ r).length := by
    rw [List.take_of_length_le (show yrec.length ≤ _ by rw [hl]; show 4 ≤ _; omega), frame_split]; exact take_app rfl
  unfold nextE
  rw [if_neg (by simpa using hm), if_neg (by omega), p1, p2, p3, p4, p5, if_neg (by omega), if_neg (by omega), if_neg (by omega), if_neg (by simp)]
theorem frameB_bytes (seq : Nat) (d : List Nat) (hd : AllBytes d) : AllBytes (frameB seq d) := by
  intro c hc
  simp only [frameB, List.mem_append] at hc
  rcases hc with ((h | h) | h) | h
  · have : c ∈ yrec := h
    exact yrec_bytes c this
  · exact headB_bytes seq d c h
  · exact numB_bytes _ _ c h
  · exact hd c h
end Go.Proofs.Ythmmhbeafbdglaa
