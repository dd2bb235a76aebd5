/- The plain law of the sums: a sum is turned bit by bit; halving is a linear map without loss; the product of two polynomials is a map that goes with it. No program in sight. -/
namespace Go.Proofs.Ythmmhbeafbdglaa
namespace Crc
/-- one halving -/
def half (x : Nat) : Nat := if x % 2 = 1 then (x / 2) ^^^ 0xEDB88320 else x / 2
def halves : Nat → Nat → Nat
  | 0, x => x
  | n + 1, x => halves n (half x)

theorem xor_mod2 (x y : Nat) : (x ^^^ y) % 2 = (x % 2 + y % 2) % 2 := by
  have h := Nat.xor_mod_two_pow (a := x) (b := y) (n := 1)
  simp only [Nat.pow_one] at h
  rw [h]
  rcases Nat.mod_two_eq_zero_or_one x with hx | hx <;> rcases Nat.mod_two_eq_zero_or_one y with hy | hy <;> rw [hx, hy] <;> rfl

theorem xor_div2 (x y : Nat) : (x ^^^ y) / 2 = x / 2 ^^^ y / 2 := by
  have h := Nat.shiftRight_xor_distrib (a := x) (b := y) (i := 1)
  simpa [Nat.shiftRight_eq_div_pow] using h

theorem half_xor (x y : Nat) : half (x ^^^ y) = half x ^^^ half y := by
  unfold half
  rw [xor_mod2, xor_div2]
  rcases Nat.mod_two_eq_zero_or_one x with hx | hx <;> rcases Nat.mod_two_eq_zero_or_one y with hy | hy <;> rw [hx, hy] <;> simp
  · rw [Nat.xor_assoc]
  · rw [Nat.xor_assoc, Nat.xor_comm (y / 2), ← Nat.xor_assoc]
  · rw [Nat.xor_assoc, ← Nat.xor_assoc 3988292384, Nat.xor_comm 3988292384 (y / 2), Nat.xor_assoc (y / 2), Nat.xor_self, Nat.xor_zero]

theorem xor_lt {x y : Nat} (hx : x < 4294967296) (hy : y < 4294967296) : x ^^^ y < 4294967296 := Nat.xor_lt_two_pow (n := 32) hx hy

theorem half_lt {x : Nat} (h : x < 4294967296) : half x < 4294967296 := by
  unfold half
  split
  · exact xor_lt (by omega) (by omega)
  · omega

theorem halves_lt (n : Nat) : ∀ {x : Nat}, x < 4294967296 → halves n x < 4294967296 := by
  induction n with
  | zero => exact fun h => h
  | succ n ih => exact fun h => ih (half_lt h)

theorem halves_xor (n : Nat) : ∀ x y : Nat, halves n (x ^^^ y) = halves n x ^^^ halves n y := by
  induction n with
  | zero => exact fun _ _ => rfl
  | succ n ih => intro x y; simp only [halves]; rw [half_xor, ih]

theorem halves_add (n m : Nat) : ∀ x : Nat, halves (n + m) x = halves n (halves m x) := by
  induction m with
  | zero => intro x; rfl
  | succ m ih => intro x; exact ih (half x)

theorem half_zero : half 0 = 0 := rfl
theorem halves_zero (n : Nat) : halves n 0 = 0 := by
  induction n with
  | zero => rfl
  | succ n ih => exact ih

theorem xor_zero_eq {a b : Nat} (h : a ^^^ b = 0) : a = b := by
  have e : (a ^^^ b) ^^^ b = a := by rw [Nat.xor_assoc, Nat.xor_self, Nat.xor_zero]
  rw [← e, h, Nat.zero_xor]
theorem xor_cancel {a b c : Nat} (h : a ^^^ b = a ^^^ c) : b = c := by
  have e : a ^^^ (a ^^^ b) = b := by rw [← Nat.xor_assoc, Nat.xor_self, Nat.zero_xor]
  rw [← e, h, ← Nat.xor_assoc, Nat.xor_self, Nat.zero_xor]

theorem half_eq_zero {z : Nat} (h : z < 4294967296) (hz : half z = 0) : z = 0 := by
  unfold half at hz
  split at hz
  · have := xor_zero_eq hz
    omega
  · omega

theorem half_inj {x y : Nat} (hx : x < 4294967296) (hy : y < 4294967296) (h : half x = half y) : x = y := by
  have h1 : half (x ^^^ y) = 0 := by rw [half_xor, h, Nat.xor_self]
  exact xor_zero_eq (half_eq_zero (xor_lt hx hy) h1)

theorem halves_inj (n : Nat) : ∀ {x y : Nat}, x < 4294967296 → y < 4294967296 → halves n x = halves n y → x = y := by
  induction n with
  | zero => exact fun _ _ h => h
  | succ n ih => exact fun hx hy h => half_inj hx hy (ih (half_lt hx) (half_lt hy) h)

theorem half_double (y : Nat) : half (2 * y) = y := by
  unfold half
  rw [if_neg (by omega)]
  omega

theorem split16 (x : Nat) : x = (16 * (x / 16)) ^^^ (x % 16) := by
  have h : (x / 16) * 2 ^ 4 + x % 16 = ((x / 16) * 2 ^ 4) ||| (x % 16) := by
    rw [← Nat.shiftLeft_eq, Nat.shiftLeft_add_eq_or_of_lt (by omega)]
  apply Nat.eq_of_testBit_eq
  intro i
  rw [Nat.testBit_xor]
  have e16 : 16 * (x / 16) = 2 ^ 4 * (x / 2 ^ 4) := rfl
  have m16 : x % 16 = x % 2 ^ 4 := rfl
  rw [e16, m16, Nat.testBit_mod_two_pow, Nat.testBit_two_pow_mul, Nat.testBit_div_two_pow]
  by_cases hi : i < 4
  · simp [hi, Nat.not_le.2 hi]
  · have h4 : 4 ≤ i := Nat.le_of_not_lt hi
    simp [hi, h4, Nat.sub_add_cancel h4]

theorem nibble (x : Nat) : halves 4 x = x / 16 ^^^ halves 4 (x % 16) := by
  conv => lhs; rw [split16 x]
  rw [halves_xor]
  congr 1
  show half (half (half (half (16 * (x / 16))))) = x / 16
  rw [show 16 * (x / 16) = 2 * (2 * (2 * (2 * (x / 16)))) by omega]
  simp only [half_double]

/-- a sum under way, behind one byte -/
def stp (x c : Nat) : Nat := halves 8 (x ^^^ c)
def run (x : Nat) (l : List Nat) : Nat := l.foldl stp x

theorem stp_nibbles (x c : Nat) : stp x c = (let y := x ^^^ c; let z := y / 16 ^^^ halves 4 (y % 16); z / 16 ^^^ halves 4 (z % 16)) := by
  simp only
  rw [← nibble (x ^^^ c), ← nibble, ← halves_add]
  rfl

theorem stp_lt {x c : Nat} (hx : x < 4294967296) (hc : c < 256) : stp x c < 4294967296 := halves_lt 8 (xor_lt hx (by omega))
theorem run_lt : ∀ (l : List Nat) {x : Nat}, x < 4294967296 → (∀ c ∈ l, c < 256) → run x l < 4294967296
  | [], _, hx, _ => hx
  | c :: l, _, hx, hl => run_lt l (stp_lt hx (hl c (by simp))) (fun d hd => hl d (by simp [hd]))

theorem run_append (x : Nat) (l k : List Nat) : run x (l ++ k) = run (run x l) k := List.foldl_append

theorem xor4 (a b c d : Nat) : (a ^^^ b) ^^^ (c ^^^ d) = (a ^^^ c) ^^^ (b ^^^ d) := by
  rw [Nat.xor_assoc, ← Nat.xor_assoc b, Nat.xor_comm b c, Nat.xor_assoc c, ← Nat.xor_assoc]

/-- the sum's state turns linearly -/
theorem run_lin : ∀ (l : List Nat) (x y : Nat), run (x ^^^ y) l = halves (8 * l.length) x ^^^ run y l
  | [], x, y => rfl
  | c :: l, x, y => by
    show run (halves 8 ((x ^^^ y) ^^^ c)) l = _
    rw [Nat.xor_assoc, halves_xor, run_lin l]
    show halves (8 * l.length) (halves 8 x) ^^^ _ = _
    rw [← halves_add]
    rfl

theorem run_inj : ∀ (l : List Nat) {x y : Nat}, x < 4294967296 → y < 4294967296 → (∀ c ∈ l, c < 256) → run x l = run y l → x = y
  | [], _, _, _, _, _, h => h
  | c :: l, x, y, hx, hy, hl, h => by
    have hc := hl c (by simp)
    have h1 := run_inj l (stp_lt hx hc) (stp_lt hy hc) (fun d hd => hl d (by simp [hd])) h
    have h2 := halves_inj 8 (xor_lt hx (by omega)) (xor_lt hy (by omega)) h1
    exact xor_cancel (a := c) (by rw [Nat.xor_comm c x, Nat.xor_comm c y]; exact h2)

/-- all bits turned -/
def inv (x : Nat) : Nat := 4294967295 - x
theorem inv_xor {x : Nat} (h : x < 4294967296) : inv x = x ^^^ 4294967295 := by
  unfold inv
  apply Nat.eq_of_testBit_eq
  intro i
  have e : 4294967295 - x = 2 ^ 32 - (x + 1) := by omega
  rw [e, Nat.testBit_two_pow_sub_succ h, Nat.testBit_xor, show (4294967295 : Nat) = 2 ^ 32 - 1 from rfl, Nat.testBit_two_pow_sub_one]
  by_cases hi : i < 32
  · simp [hi]
  · have : x.testBit i = false := Nat.testBit_lt_two_pow (Nat.lt_of_lt_of_le (show x < 2 ^ 32 from h) (Nat.pow_le_pow_right (by decide) (Nat.le_of_not_lt hi)))
    simp [hi, this]

/-- the product: 'n' rounds -/
def prodl : Nat → Nat → Nat → Nat → Nat
  | 0, _, _, p => p
  | n + 1, a, b, p => prodl n (a * 2 % 4294967296) (half b) (if a / 2147483648 = 1 then p ^^^ b else p)
def prod (a b : Nat) : Nat := prodl 32 a b 0

theorem prodl_zero : ∀ (n b p : Nat), prodl n 0 b p = p
  | 0, _, _ => rfl
  | n + 1, b, p => by show prodl n (0 * 2 % 4294967296) (half b) _ = p; rw [show 0 * 2 % 4294967296 = 0 from rfl, prodl_zero n]; rfl

/-- a map that turns with sums and with halving -/
structure Good (T : Nat → Nat) : Prop where
  lt : ∀ x, x < 4294967296 → T x < 4294967296
  lin : ∀ x y, T (x ^^^ y) = T x ^^^ T y
  com : ∀ x, T (half x) = half (T x)

theorem Good.halves (n : Nat) : Good (halves n) := ⟨fun _ h => halves_lt n h, halves_xor n, fun x => by
  show Crc.halves (n + 1) x = _
  rw [Nat.add_comm, halves_add]; rfl⟩
theorem Good.comp {S T : Nat → Nat} (hs : Good S) (ht : Good T) : Good (fun x => S (T x)) :=
  ⟨fun x h => hs.lt _ (ht.lt x h), fun x y => by rw [ht.lin, hs.lin], fun x => by rw [ht.com, hs.com]⟩

theorem prodl_lt (n : Nat) : ∀ {a b p : Nat}, b < 4294967296 → p < 4294967296 → prodl n a b p < 4294967296 := by
  induction n with
  | zero => exact fun _ h => h
  | succ n ih =>
    intro a b p hb hp
    refine ih (half_lt hb) ?_
    split
    · exact xor_lt hp hb
    · exact hp

theorem xor_swap (p q b c : Nat) : (p ^^^ q) ^^^ (b ^^^ c) = (p ^^^ b) ^^^ (q ^^^ c) := xor4 p q b c

theorem prodl_xor (n : Nat) : ∀ a b c p q : Nat, prodl n a (b ^^^ c) (p ^^^ q) = prodl n a b p ^^^ prodl n a c q := by
  induction n with
  | zero => exact fun _ _ _ _ _ => rfl
  | succ n ih =>
    intro a b c p q
    simp only [prodl]
    rw [half_xor]
    split
    · rw [xor_swap, ih]
    · rw [ih]

theorem prodl_half (n : Nat) : ∀ a b p : Nat, prodl n a (half b) (half p) = half (prodl n a b p) := by
  induction n with
  | zero => exact fun _ _ _ => rfl
  | succ n ih =>
    intro a b p
    simp only [prodl]
    split
    · rw [← half_xor, ih]
    · rw [ih]

theorem Good.prod (a : Nat) : Good (prod a) :=
  ⟨fun _ h => prodl_lt 32 h (by omega), fun x y => by have := prodl_xor 32 a x y 0 0; simpa [Crc.prod] using this, fun x => prodl_half 32 a x 0⟩

/-- the one: the highest bit -/
def one : Nat := 2147483648

theorem half_even {k : Nat} : half (2 ^ (k + 1)) = 2 ^ k := by
  rw [Nat.pow_succ, Nat.mul_comm]; exact half_double _

theorem basis : ∀ k, k < 32 → ∃ n, halves n one = 2 ^ k := by
  intro k hk
  have h : ∀ d, d < 32 → halves d one = 2 ^ (31 - d) := by
    intro d
    induction d with
    | zero => intro _; rfl
    | succ d ih =>
      intro hd
      rw [Nat.add_comm, halves_add, ih (by omega)]
      show half _ = _
      rw [show 31 - d = (31 - (d + 1)) + 1 by omega, half_even]
      congr 1
      omega
  exact ⟨31 - k, by rw [h _ (by omega)]; congr 1; omega⟩

theorem Good.halves_com {T : Nat → Nat} (h : Good T) (n : Nat) : ∀ x, T (Crc.halves n x) = Crc.halves n (T x) := by
  induction n with
  | zero => intro x; rfl
  | succ n ih => intro x; show T (Crc.halves n (half x)) = Crc.halves n (half (T x)); rw [ih, h.com]

theorem Good.zero {T : Nat → Nat} (h : Good T) : T 0 = 0 := by
  have := h.lin 0 0
  rw [Nat.xor_self, Nat.xor_self] at this
  exact this

theorem xor_bit_lt {x n : Nat} (h : x < 2 ^ (n + 1)) (hb : 2 ^ n ≤ x) : x ^^^ 2 ^ n < 2 ^ n := by
  have e : x = 2 ^ n + (x - 2 ^ n) := by omega
  have hl : x - 2 ^ n < 2 ^ n := by rw [Nat.pow_succ] at h; omega
  have : 2 ^ n + (x - 2 ^ n) = 2 ^ n ^^^ (x - 2 ^ n) := by
    apply Nat.eq_of_testBit_eq
    intro i
    rw [Nat.testBit_xor, Nat.testBit_two_pow]
    have h1 := Nat.testBit_two_pow_mul_add 1 hl i
    rw [Nat.mul_one] at h1
    rw [h1]
    by_cases hi : i < n
    · simp [hi, show n ≠ i by omega]
    · rw [if_neg hi, Nat.testBit_lt_two_pow (Nat.lt_of_lt_of_le hl (Nat.pow_le_pow_right (by decide) (Nat.le_of_not_lt hi)))]
      by_cases h2 : n = i
      · subst h2; simp
      · have h3 : i - n ≠ 0 := by omega
        have : Nat.testBit 1 (i - n) = false := by
          obtain ⟨m, hm⟩ : ∃ m, i - n = m + 1 := ⟨i - n - 1, by omega⟩
          rw [hm, Nat.testBit_succ]; simp
        simp [h2, this]
  rw [e, this, Nat.xor_comm (2 ^ n), Nat.xor_assoc, Nat.xor_self, Nat.xor_zero]
  exact hl

/-- two such maps that agree at the one agree everywhere -/
theorem Good.ext {S T : Nat → Nat} (hs : Good S) (ht : Good T) (h : S one = T one) : ∀ x, x < 4294967296 → S x = T x := by
  have hb : ∀ k, k < 32 → S (2 ^ k) = T (2 ^ k) := by
    intro k hk
    obtain ⟨n, hn⟩ := basis k hk
    rw [← hn, hs.halves_com, ht.halves_com, h]
  have H : ∀ n, n ≤ 32 → ∀ x, x < 2 ^ n → S x = T x := by
    intro n
    induction n with
    | zero => intro _ x hx; have : x = 0 := by simpa using hx
              subst this; rw [hs.zero, ht.zero]
    | succ n ih =>
      intro hn x hx
      by_cases hlt : x < 2 ^ n
      · exact ih (by omega) x hlt
      · have h1 := ih (by omega) _ (xor_bit_lt hx (Nat.le_of_not_lt hlt))
        have e : x = (x ^^^ 2 ^ n) ^^^ 2 ^ n := by rw [Nat.xor_assoc, Nat.xor_self, Nat.xor_zero]
        rw [e, hs.lin, ht.lin, h1, hb n (by omega)]
  exact fun x hx => H 32 (by omega) x hx

theorem top_bit (m n : Nat) (h : m < 2 ^ (n + 1)) : m = (if m / 2 ^ n = 1 then 2 ^ n else 0) ^^^ (m % 2 ^ n) := by
  by_cases hb : 2 ^ n ≤ m
  · have h1 : m / 2 ^ n = 1 := by
      rw [Nat.pow_succ] at h
      exact Nat.div_eq_of_lt_le (by omega) (by omega)
    have h2 := xor_bit_lt h hb
    have h3 : m % 2 ^ n = m ^^^ 2 ^ n := by
      have h4 := Nat.xor_mod_two_pow (a := m) (b := 2 ^ n) (n := n)
      rw [Nat.mod_self, Nat.xor_zero, Nat.mod_eq_of_lt h2] at h4
      exact h4.symm
    rw [if_pos h1, h3, Nat.xor_comm m, ← Nat.xor_assoc, Nat.xor_self, Nat.zero_xor]
  · have h1 : m / 2 ^ n = 0 := Nat.div_eq_of_lt (Nat.lt_of_not_le hb)
    rw [h1, if_neg (by omega), Nat.zero_xor, Nat.mod_eq_of_lt (Nat.lt_of_not_le hb)]

theorem prodl_one (n : Nat) : ∀ (m b p : Nat), n ≤ 32 → m < 2 ^ n → (n ≠ 0 → b = 2 ^ (n - 1)) → prodl n (m * 2 ^ (32 - n)) b p = p ^^^ m := by
  induction n with
  | zero => intro m b p _ hm _; have : m = 0 := by simpa using hm
            subst this; show p = p ^^^ 0; rw [Nat.xor_zero]
  | succ n ih =>
    intro m b p hn hm hb
    have hb1 : b = 2 ^ n := hb (by omega)
    subst hb1
    simp only [prodl]
    have e31 : (2147483648 : Nat) = 2 ^ n * 2 ^ (32 - (n + 1)) := by rw [← Nat.pow_add]; rw [show n + (32 - (n + 1)) = 31 by omega]
    have e32 : (4294967296 : Nat) = 2 ^ n * 2 ^ (32 - n) := by rw [← Nat.pow_add]; rw [show n + (32 - n) = 32 by omega]
    have e1 : m * 2 ^ (32 - (n + 1)) / 2147483648 = m / 2 ^ n := by
      rw [e31, Nat.mul_div_mul_right _ _ (Nat.pow_pos (by decide))]
    have e2 : m * 2 ^ (32 - (n + 1)) * 2 % 4294967296 = (m % 2 ^ n) * 2 ^ (32 - n) := by
      rw [e32, Nat.mul_assoc, ← Nat.pow_succ, show (32 - (n + 1)).succ = 32 - n by omega, Nat.mul_mod_mul_right]
    rw [e1, e2, ih (m % 2 ^ n) _ _ (by omega) (Nat.mod_lt _ (Nat.pow_pos (by decide))) (fun h0 => by
      obtain ⟨q, rfl⟩ : ∃ q, n = q + 1 := ⟨n - 1, by omega⟩
      exact half_even)]
    conv => rhs; rw [top_bit m n hm]
    rw [← Nat.xor_assoc]
    split
    · rfl
    · rw [Nat.xor_zero]

theorem prod_one (a : Nat) (ha : a < 4294967296) : prod a one = a := by
  have h := prodl_one 32 a one 0 (by omega) ha (fun _ => rfl)
  rw [Nat.zero_xor] at h
  simpa [prod] using h

/-- a map that turns with sums and with halving is the product by what it makes of the one -/
theorem Good.eq_prod {T : Nat → Nat} (h : Good T) {c : Nat} (hc : T one = c) : ∀ x, x < 4294967296 → T x = Crc.prod c x := by
  have hl : c < 4294967296 := by rw [← hc]; exact h.lt one (by decide)
  exact h.ext (Good.prod c) (by rw [hc, prod_one c hl])

theorem prod_prod {a b : Nat} (hb : b < 4294967296) (x : Nat) (hx : x < 4294967296) : prod (prod a b) x = prod a (prod b x) := by
  have h := ((Good.prod a).comp (Good.prod b)).eq_prod (c := prod a b) (by show prod a (prod b one) = _; rw [prod_one b hb]) x hx
  exact h.symm

theorem prod_halves (n : Nat) (x : Nat) (hx : x < 4294967296) : prod (halves n one) x = halves n x := ((Good.halves n).eq_prod rfl x hx).symm

theorem halves8 : halves 8 one = 8388608 := by decide

/-- the loop of powers: 'long' rounds of eight halvings, told by squares -/
theorem powers (p : Nat) (k : Nat) (x : Nat) (hx : x < 4294967296) : prod (prod (halves p one) (halves k one)) x = halves (p + k) x := by
  have h2 := halves_lt k (x := one) (by decide)
  rw [prod_prod h2 x hx, prod_halves k x hx, prod_halves p _ (halves_lt k hx), ← halves_add]

theorem prod_powers (p k : Nat) : prod (halves p one) (halves k one) = halves (p + k) one := by
  rw [prod_halves p _ (halves_lt k (by decide)), ← halves_add]
end Crc
end Go.Proofs.Ythmmhbeafbdglaa
