/- Plain laws of signs and bytes: a sign's bytes are read back as that sign and no other, the document's search for the first sign is the decoder's, and texts are read sign by sign. Conditions: none; no program. -/
import Derived.Lib.MapLaws
set_option linter.unusedVariables false
namespace Go.Proofs.YtpgncjfmaeiaaaaDoor
open Go.Lib
/-- is a number a sign? -/
def signB (n : Int) : Bool := decide (0 ≤ n ∧ n ≤ 1114111 ∧ (n < 55296 ∨ 57343 < n))
theorem signB_iff {n : Int} : signB n = true ↔ 0 ≤ n ∧ n ≤ 1114111 ∧ (n < 55296 ∨ 57343 < n) := by simp [signB]
theorem signB_not {n : Int} : signB n = false ↔ ¬ (0 ≤ n ∧ n ≤ 1114111 ∧ (n < 55296 ∨ 57343 < n)) := by simp [signB]
theorem byte_toNat {z : Int} (_h0 : 0 ≤ z) (h1 : z < 256) : (z.toNat.toUInt8).toNat = z.toNat := by
  simp; omega
theorem encodeRune_length (n : Int) : (encodeRune n).length = (encodeRuneZ n).length := by simp [encodeRune]
theorem encodeRune_le (n : Int) : 1 ≤ (encodeRune n).length ∧ (encodeRune n).length ≤ 4 := by
  have := encodeRuneZ_length n
  rw [encodeRune_length]; exact this
set_option maxRecDepth 100000 in
set_option maxHeartbeats 2000000 in
/-- a sign's bytes are read back, whatever stands behind -/
theorem decode_encode {n : Int} (h : signB n = true) (t : List UInt8) : decodeL (encodeRune n ++ t) = (n.toNat, (encodeRune n).length) := by
  obtain ⟨h0, h1, h2⟩ := signB_iff.1 h
  rw [decodeL_N]
  unfold encodeRune
  by_cases c1 : n ≤ 127
  · rw [encodeRuneZ_one h0 c1]
    simp only [List.map_cons, List.map_nil, List.cons_append, List.nil_append, List.length_cons, List.length_nil, List.getD_cons_zero]
    rw [byte_toNat h0 (by omega)]
    unfold decodeN
    rw [if_pos (by omega)]
  · by_cases c2 : n ≤ 2047
    · rw [encodeRuneZ_two (by omega) c2]
      simp only [List.map_cons, List.map_nil, List.cons_append, List.nil_append, List.length_cons, List.length_nil, List.getD_cons_zero, List.getD_cons_succ]
      rw [byte_toNat (z := 192 + n / 64) (by omega) (by omega), byte_toNat (z := 128 + n % 64) (by omega) (by omega)]
      unfold decodeN
      rw [if_neg (by omega), if_pos ⟨by omega, by omega, by omega⟩, if_pos (by omega)]
      exact Prod.ext (by simp only; omega) rfl
    · by_cases c3 : n ≤ 65535
      · rw [encodeRuneZ_three (by omega)]
        simp only [List.map_cons, List.map_nil, List.cons_append, List.nil_append, List.length_cons, List.length_nil, List.getD_cons_zero, List.getD_cons_succ]
        rw [byte_toNat (z := 224 + n / 4096) (by omega) (by omega), byte_toNat (z := 128 + n / 64 % 64) (by omega) (by omega), byte_toNat (z := 128 + n % 64) (by omega) (by omega)]
        unfold decodeN
        have hv : (224 + n / 4096).toNat % 16 * 4096 + (128 + n / 64 % 64).toNat % 64 * 64 + (128 + n % 64).toNat % 64 = n.toNat := by omega
        rw [if_neg (by omega), if_neg (by omega), if_pos ⟨by omega, ⟨by omega, by omega⟩, by omega, by omega⟩, hv, if_pos (by omega)]
      · rw [encodeRuneZ_four (by omega) h1]
        simp only [List.map_cons, List.map_nil, List.cons_append, List.nil_append, List.length_cons, List.length_nil, List.getD_cons_zero, List.getD_cons_succ]
        rw [byte_toNat (z := 240 + n / 262144) (by omega) (by omega), byte_toNat (z := 128 + n / 4096 % 64) (by omega) (by omega), byte_toNat (z := 128 + n / 64 % 64) (by omega) (by omega), byte_toNat (z := 128 + n % 64) (by omega) (by omega)]
        unfold decodeN
        have hv : (240 + n / 262144).toNat % 8 * 262144 + (128 + n / 4096 % 64).toNat % 64 * 4096 + (128 + n / 64 % 64).toNat % 64 * 64 + (128 + n % 64).toNat % 64 = n.toNat := by omega
        rw [if_neg (by omega), if_neg (by omega), if_neg (by omega), if_pos ⟨by omega, ⟨by omega, by omega⟩, ⟨by omega, by omega⟩, by omega, by omega⟩, hv, if_pos (by omega)]
/-- the sign that begins a text, and how many bytes it has -/
def firstL (l : List UInt8) : Int × Nat := if l = [] then (-1, 0) else if decodeL l = (65533, 1) then (-1, 1) else ((decodeL l).1, (decodeL l).2)
theorem firstL_nil : firstL [] = (-1, 0) := rfl
theorem not_err {n : Int} (h : signB n = true) : (n.toNat, (encodeRune n).length) ≠ (65533, 1) := by
  intro e
  have e1 := congrArg Prod.fst e
  have e2 := congrArg Prod.snd e
  simp only at e1 e2
  obtain ⟨h0, _, _⟩ := signB_iff.1 h
  have : n = 65533 := by omega
  subst this
  rw [encodeRune_length] at e2
  exact absurd e2 (by decide)
theorem encodeRune_ne (n : Int) : encodeRune n ≠ [] := fun e => by have := encodeRune_le n; rw [e] at this; simp at this
theorem firstL_encode {n : Int} (h : signB n = true) (t : List UInt8) : firstL (encodeRune n ++ t) = (n, (encodeRune n).length) := by
  unfold firstL
  rw [if_neg (by simp [encodeRune_ne]), decode_encode h t, if_neg (not_err h)]
  have := (signB_iff.1 h).1
  exact Prod.ext (by simp only; omega) rfl
theorem decode_sign {l : List UInt8} (hne : l ≠ []) (hv : decodeL l ≠ (65533, 1)) : signB ((decodeL l).1 : Int) = true := by
  rw [decodeL_N] at hv ⊢
  rw [signB_iff]
  rcases decodeN_shape l.length (l.getD 0 0).toNat (l.getD 1 0).toNat (l.getD 2 0).toNat (l.getD 3 0).toNat with ⟨c, e⟩ | ⟨c1, c2, c3, cv, e⟩ | ⟨c1, c2, c3, c4, cv, cs, e⟩ | ⟨c1, c2, c3, c4, c5, cv, cw, e⟩ | e
  all_goals (rw [e] at hv ⊢; simp only)
  all_goals first | omega | exact absurd rfl hv
/-- what begins a text: nothing; no sign; or a sign's bytes, and the rest -/
theorem first_cases (l : List UInt8) : (l = [] ∧ firstL l = (-1, 0)) ∨ (l ≠ [] ∧ firstL l = (-1, 1)) ∨ ∃ n t, signB n = true ∧ l = encodeRune n ++ t ∧ firstL l = (n, (encodeRune n).length) := by
  by_cases hne : l = []
  · exact Or.inl ⟨hne, by rw [hne]; rfl⟩
  · by_cases hv : decodeL l = (65533, 1)
    · exact Or.inr (Or.inl ⟨hne, by unfold firstL; rw [if_neg hne, if_pos hv]⟩)
    · have hs := decode_sign hne hv
      have he := encode_decode l hne (fun h => hv (Prod.ext h.1 h.2))
      have hl : l = encodeRune ((decodeL l).1 : Int) ++ l.drop (decodeL l).2 := by rw [he, List.take_append_drop]
      refine Or.inr (Or.inr ⟨_, l.drop (decodeL l).2, hs, hl, ?_⟩)
      have := firstL_encode hs (l.drop (decodeL l).2)
      rw [← hl] at this
      exact this
theorem encode_inj {a b : Int} {s t : List UInt8} (ha : signB a = true) (hb : signB b = true) (h : encodeRune a ++ s = encodeRune b ++ t) : a = b ∧ s = t := by
  have h1 := firstL_encode ha s
  have h2 := firstL_encode hb t
  rw [h, h2] at h1
  have : b = a := congrArg Prod.fst h1
  subst this
  exact ⟨rfl, List.append_cancel_left h⟩
/-! ### the document's search -/
def firstN : Nat → Int
  | 2 => 192
  | 3 => 224
  | 4 => 240
  | _ => 0
def gAt (l : List UInt8) (many : Nat) : Nat → Int
  | 0 => ((l.getD 0 0).toNat : Int) - firstN many
  | i + 1 => gAt l many i * 64 + ((l.getD (i + 1) 0).toNat : Int) - 128
def guessL (l : List UInt8) (many : Nat) : Int := gAt l many (many - 1)
theorem gAt_bound (l : List UInt8) (many : Nat) : ∀ i, i ≤ 3 → -1000000000 ≤ gAt l many i ∧ gAt l many i ≤ 1000000000 := by
  have hf : 0 ≤ firstN many ∧ firstN many ≤ 240 := by unfold firstN; split <;> omega
  have hb : ∀ k, (l.getD k 0).toNat < 256 := fun k => UInt8.toNat_lt _
  intro i hi
  have k0 := hb 0
  have k1 := hb 1
  have k2 := hb 2
  have k3 := hb 3
  obtain rfl | rfl | rfl | rfl : i = 0 ∨ i = 1 ∨ i = 2 ∨ i = 3 := by omega
  all_goals simp only [gAt, Nat.zero_add, Nat.reduceAdd]; omega
/-- is it a sign of so many bytes, and do they stand there? -/
def condB (l : List UInt8) (many : Nat) : Bool := signB (guessL l many) && decide ((encodeRune (guessL l many)).length = many) && decide (l.take many = encodeRune (guessL l many))
def firstRF (l : List UInt8) : Nat → Nat → Int × Nat
  | 0, _ => (-1, 1)
  | k + 1, m => if condB l m = true then (guessL l m, m) else firstRF l k (m + 1)
def firstR (l : List UInt8) : Int × Nat := if l = [] then (-1, 0) else firstRF l (min 4 l.length) 1
theorem cond_first {l : List UInt8} {m : Nat} (h : condB l m = true) : firstL l = (guessL l m, m) := by
  simp only [condB, Bool.and_eq_true, decide_eq_true_eq] at h
  obtain ⟨⟨hs, hl⟩, ht⟩ := h
  have := firstL_encode hs (l.drop m)
  rw [← ht, List.take_append_drop, ht, hl] at this
  exact this
theorem first_cond {l : List UInt8} (hne : l ≠ []) (hv : decodeL l ≠ (65533, 1)) : condB l (decodeL l).2 = true ∧ guessL l (decodeL l).2 = (decodeL l).1 ∧ (decodeL l).2 ≤ 4 := by
  have hs := decode_sign hne hv
  have he := encode_decode l hne (fun h => hv (Prod.ext h.1 h.2))
  have hle := decodeL_le l hne
  have hg : guessL l (decodeL l).2 = (decodeL l).1 ∧ (decodeL l).2 ≤ 4 := by
    clear he hs hle
    rw [decodeL_N] at hv ⊢
    rcases decodeN_shape l.length (l.getD 0 0).toNat (l.getD 1 0).toNat (l.getD 2 0).toNat (l.getD 3 0).toNat with ⟨c, e⟩ | ⟨c1, c2, c3, cv, e⟩ | ⟨c1, c2, c3, c4, cv, cs, e⟩ | ⟨c1, c2, c3, c4, c5, cv, cw, e⟩ | e
    all_goals (rw [e] at hv ⊢; simp only [guessL, gAt, firstN, Nat.reduceSub, Nat.zero_add, Nat.reduceAdd])
    all_goals first | omega | exact absurd rfl hv
  refine ⟨?_, hg⟩
  simp only [condB, Bool.and_eq_true, decide_eq_true_eq]
  rw [hg.1, he]
  exact ⟨⟨hs, by rw [List.length_take]; omega⟩, rfl⟩
theorem firstRF_no {l : List UInt8} : ∀ (k m : Nat), (∀ j, m ≤ j → j < m + k → condB l j = false) → firstRF l k m = (-1, 1)
  | 0, _, _ => rfl
  | k + 1, m, h => by
    simp only [firstRF, h m (Nat.le_refl _) (by omega), Bool.false_eq_true, if_false]
    exact firstRF_no k (m + 1) fun j h1 h2 => h j (by omega) (by omega)
theorem firstRF_yes {l : List UInt8} : ∀ (k m n : Nat), m ≤ n → n < m + k → (∀ j, m ≤ j → j < n → condB l j = false) → condB l n = true → firstRF l k m = (guessL l n, n)
  | 0, m, n, h1, h2, _, _ => by omega
  | k + 1, m, n, h1, h2, h, hn => by
    by_cases e : m = n
    · subst e
      simp only [firstRF, hn, if_true]
    · simp only [firstRF, h m (Nat.le_refl _) (by omega), Bool.false_eq_true, if_false]
      exact firstRF_yes k (m + 1) n (by omega) (by omega) (fun j h1 h2 => h j (by omega) h2) hn
/-- the document's search is the decoder's -/
theorem firstR_eq (l : List UInt8) : firstR l = firstL l := by
  unfold firstR
  by_cases hne : l = []
  · rw [if_pos hne, hne]; rfl
  · rw [if_neg hne]
    by_cases hv : decodeL l = (65533, 1)
    · rw [firstRF_no]
      · unfold firstL; rw [if_neg hne, if_pos hv]
      · intro j _ _
        cases h : condB l j with
        | false => rfl
        | true =>
          have h1 := cond_first h
          unfold firstL at h1
          rw [if_neg hne, if_pos hv] at h1
          simp only [condB, Bool.and_eq_true] at h
          have := (signB_iff.1 h.1.1).1
          have := congrArg Prod.fst h1
          simp only at this
          omega
    · obtain ⟨h1, h2, h3⟩ := first_cond hne hv
      have hl := decodeL_le l hne
      have hw := decodeL_width l
      have hf : firstL l = (((decodeL l).1 : Int), (decodeL l).2) := by unfold firstL; rw [if_neg hne, if_neg hv]
      rw [firstRF_yes _ 1 (decodeL l).2 hw (by omega) ?_ h1, hf, h2]
      intro j _ hj
      cases h : condB l j with
      | false => rfl
      | true =>
        have := cond_first h
        rw [hf] at this
        have := congrArg Prod.snd this
        simp only at this
        omega
/-! ### texts, sign by sign -/
/-- sign by sign as long as it is told to: the signs, and the place where it ended -/
def walkF (p : Int → Bool) : Nat → List UInt8 → List Int × Nat
  | 0, _ => ([], 0)
  | k + 1, l => if l = [] then ([], 0) else if p (firstL l).1 = true then ((firstL l).1 :: (walkF p k (l.drop (firstL l).2)).1, (firstL l).2 + (walkF p k (l.drop (firstL l).2)).2) else ([], 0)
def walkL (p : Int → Bool) (l : List UInt8) : List Int × Nat := walkF p l.length l
theorem firstL_pos {l : List UInt8} (h : l ≠ []) : 1 ≤ (firstL l).2 ∧ (firstL l).2 ≤ l.length := by
  have hl : 0 < l.length := List.length_pos_iff.2 h
  rcases first_cases l with ⟨e, _⟩ | ⟨_, e⟩ | ⟨n, t, hs, e, hf⟩
  · exact absurd e h
  · rw [e]; exact ⟨Nat.le_refl _, hl⟩
  · rw [hf]
    have := encodeRune_le n
    have := congrArg List.length e
    rw [List.length_append] at this
    exact ⟨by omega, by simp only; omega⟩
theorem walkF_fuel (p : Int → Bool) : ∀ (k m : Nat) (l : List UInt8), l.length ≤ k → l.length ≤ m → walkF p k l = walkF p m l
  | 0, m, l, hk, _ => by
    have : l = [] := List.eq_nil_of_length_eq_zero (by omega)
    subst this
    cases m <;> simp [walkF]
  | k + 1, 0, l, _, hm => by
    have : l = [] := List.eq_nil_of_length_eq_zero (by omega)
    subst this
    simp [walkF]
  | k + 1, m + 1, l, hk, hm => by
    by_cases h : l = []
    · simp [walkF, h]
    · have hp := firstL_pos h
      have e := walkF_fuel p k m (l.drop (firstL l).2) (by rw [List.length_drop]; omega) (by rw [List.length_drop]; omega)
      simp only [walkF, if_neg h, e]
theorem walkL_nil (p : Int → Bool) : walkL p [] = ([], 0) := rfl
theorem walkL_yes {p : Int → Bool} {l : List UInt8} (h : l ≠ []) (hp : p (firstL l).1 = true) : walkL p l = ((firstL l).1 :: (walkL p (l.drop (firstL l).2)).1, (firstL l).2 + (walkL p (l.drop (firstL l).2)).2) := by
  have hl : 0 < l.length := List.length_pos_iff.2 h
  obtain ⟨k, hk⟩ : ∃ k, l.length = k + 1 := ⟨l.length - 1, by omega⟩
  have hf := firstL_pos h
  have e := walkF_fuel p k (l.drop (firstL l).2).length (l.drop (firstL l).2) (by rw [List.length_drop]; omega) (Nat.le_refl _)
  unfold walkL
  rw [hk]
  simp only [walkF, if_neg h, hp, if_true, e]
theorem walkL_no {p : Int → Bool} {l : List UInt8} (hp : p (firstL l).1 = false) : walkL p l = ([], 0) := by
  unfold walkL
  cases hk : l.length with
  | zero => rfl
  | succ k => simp only [walkF, hp, Bool.false_eq_true, if_false, ite_self]
theorem walkL_le (p : Int → Bool) : ∀ (k : Nat) (l : List UInt8), l.length ≤ k → (walkL p l).2 ≤ l.length ∧ (walkL p l).1.length ≤ (walkL p l).2
  | k, l, hk => by
    by_cases h : l = []
    · subst h; exact ⟨Nat.le_refl _, Nat.le_refl _⟩
    · have hl : 0 < l.length := List.length_pos_iff.2 h
      cases hp : p (firstL l).1 with
      | false => rw [walkL_no hp]; exact ⟨Nat.zero_le _, Nat.le_refl _⟩
      | true =>
        have hf := firstL_pos h
        obtain ⟨m, rfl⟩ : ∃ m, k = m + 1 := ⟨k - 1, by omega⟩
        have ih := walkL_le p m (l.drop (firstL l).2) (by rw [List.length_drop]; omega)
        rw [List.length_drop] at ih
        rw [walkL_yes h hp]
        simp only [List.length_cons]
        omega
def okB (n : Int) : Bool := decide (0 ≤ n)
def encL (l : List Int) : List UInt8 := l.flatMap encodeRune
theorem encL_cons (n : Int) (l : List Int) : encL (n :: l) = encodeRune n ++ encL l := rfl
theorem encL_append (a b : List Int) : encL (a ++ b) = encL a ++ encL b := by simp [encL]
theorem encL_length (l : List Int) : l.length ≤ (encL l).length ∧ (encL l).length ≤ 4 * l.length := by
  induction l with
  | nil => simp [encL]
  | cons n l ih =>
    have := encodeRune_le n
    rw [encL_cons, List.length_append, List.length_cons]
    omega
/-- what is encoded is decoded, whatever stands behind -/
theorem walk_enc {p : Int → Bool} (t : List UInt8) : ∀ (l : List Int), (∀ n ∈ l, signB n = true ∧ p n = true) → walkL p (encL l ++ t) = (l ++ (walkL p t).1, (encL l).length + (walkL p t).2)
  | [], _ => by simp [encL]
  | n :: l, h => by
    obtain ⟨hs, hp⟩ := h n (by simp)
    have ih := walk_enc t l fun x hx => h x (by simp [hx])
    have e : encL (n :: l) ++ t = encodeRune n ++ (encL l ++ t) := by rw [encL_cons, List.append_assoc]
    have hf := firstL_encode hs (encL l ++ t)
    have hne : encodeRune n ++ (encL l ++ t) ≠ [] := by simp [encodeRune_ne]
    rw [e, walkL_yes hne (by rw [hf]; exact hp), hf]
    simp only [List.drop_left, ih, encL_cons, List.cons_append, List.length_append]
    rw [Nat.add_assoc]
/-- a text that has no fault is its signs' bytes -/
theorem walk_whole {p : Int → Bool} (hp : ∀ n, p n = true → 0 ≤ n) : ∀ (k : Nat) (l : List UInt8), l.length ≤ k → encL (walkL p l).1 = l.take (walkL p l).2 ∧ ∀ n ∈ (walkL p l).1, signB n = true ∧ p n = true
  | k, l, hk => by
    by_cases h : l = []
    · subst h; exact ⟨rfl, fun n hn => by cases hn⟩
    · have hl : 0 < l.length := List.length_pos_iff.2 h
      cases hpf : p (firstL l).1 with
      | false => rw [walkL_no hpf]; exact ⟨rfl, fun n hn => by cases hn⟩
      | true =>
        have hf := firstL_pos h
        obtain ⟨m, rfl⟩ : ∃ m, k = m + 1 := ⟨k - 1, by omega⟩
        have ih := walk_whole hp m (l.drop (firstL l).2) (by rw [List.length_drop]; omega)
        have h0 := hp _ hpf
        rw [walkL_yes h hpf]
        rcases first_cases l with ⟨e, _⟩ | ⟨_, e⟩ | ⟨n, t, hs, e, hfe⟩
        · exact absurd e h
        · rw [e] at h0; simp only at h0; omega
        · rw [hfe] at ih hpf ⊢
          have hd : l.drop (encodeRune n).length = t := by rw [e, List.drop_left]
          simp only at ih hpf ⊢
          rw [hd] at ih ⊢
          refine ⟨?_, ?_⟩
          · rw [encL_cons, ih.1, e, List.take_length_add_append]
          · intro x hx
            rcases List.mem_cons.1 hx with rfl | hx
            · exact ⟨hs, hpf⟩
            · exact ih.2 x hx
end Go.Proofs.YtpgncjfmaeiaaaaDoor
