/- The plain law of CRC-32: by a table of bytes and bit by bit come to one number; a step is linear and has an inverse. -/
import Derived.Laws.BitsAllLaws
namespace CrcPlain

def poly : Nat := 3988292384
def one (c : Nat) : Nat := if c % 2 = 1 then (c / 2) ^^^ poly else c / 2
def many : Nat → Nat → Nat
  | 0, c => c
  | k + 1, c => one (many k c)
def byte (c b : Nat) : Nat := many 8 (c ^^^ b)
def text (c : Nat) (l : List UInt8) : Nat := l.foldl (fun c b => byte c b.toNat) c
def top : Nat := 4294967295
def more (c : Nat) (l : List UInt8) : Nat := top - text (top - c) l

theorem one_odd {c : Nat} (h : c % 2 = 1) : one c = (c / 2) ^^^ poly := by unfold one; rw [if_pos h]
theorem one_even {c : Nat} (h : c % 2 = 0) : one c = c / 2 := by unfold one; rw [if_neg (by omega)]

theorem cancel_right {a b x : Nat} (h : a ^^^ x = b ^^^ x) : a = b := by
  have := congrArg (· ^^^ x) h
  simpa [Nat.xor_assoc] using this

theorem cancel_left {a b x : Nat} (h : x ^^^ a = x ^^^ b) : a = b := by
  rw [Nat.xor_comm x, Nat.xor_comm x] at h; exact cancel_right h

theorem xor_lt {a b : Nat} (ha : a < 4294967296) (hb : b < 4294967296) : a ^^^ b < 4294967296 :=
  Nat.xor_lt_two_pow (n := 32) ha hb

theorem one_lt {c : Nat} (h : c < 4294967296) : one c < 4294967296 := by
  unfold one
  split
  · exact xor_lt (by omega) (by decide)
  · omega

theorem many_lt (k : Nat) {c : Nat} (h : c < 4294967296) : many k c < 4294967296 := by
  induction k with
  | zero => exact h
  | succ k ih => exact one_lt ih

theorem mod_xor (a b : Nat) : (a ^^^ b) % 2 = (a % 2) ^^^ (b % 2) := by
  have := Nat.xor_mod_two_pow (a := a) (b := b) (n := 1)
  simpa using this

theorem div_xor (a b : Nat) : (a ^^^ b) / 2 = (a / 2) ^^^ (b / 2) := by
  have := Nat.xor_div_two_pow (a := a) (b := b) (n := 1)
  simpa using this

theorem one_xor (a b : Nat) : one (a ^^^ b) = one a ^^^ one b := by
  have hm := mod_xor a b
  have hd := div_xor a b
  rcases Nat.mod_two_eq_zero_or_one a with ha | ha <;> rcases Nat.mod_two_eq_zero_or_one b with hb | hb <;> rw [ha, hb] at hm
  · rw [one_even ha, one_even hb, one_even hm, hd]
  · rw [one_even ha, one_odd hb, one_odd hm, hd, Nat.xor_assoc]
  · rw [one_odd ha, one_even hb, one_odd hm, hd, Nat.xor_assoc, Nat.xor_assoc, Nat.xor_comm poly]
  · rw [one_odd ha, one_odd hb, one_even hm, hd]
    rw [show a / 2 ^^^ poly ^^^ (b / 2 ^^^ poly) = a / 2 ^^^ b / 2 ^^^ (poly ^^^ poly) by
      simp only [Nat.xor_assoc]; congr 1; rw [Nat.xor_comm poly, Nat.xor_assoc]]
    rw [Nat.xor_self, Nat.xor_zero]

theorem many_xor (k a b : Nat) : many k (a ^^^ b) = many k a ^^^ many k b := by
  induction k with
  | zero => rfl
  | succ k ih => show one (many k (a ^^^ b)) = _; rw [ih, one_xor]; rfl

theorem many_succ (k c : Nat) : many (k + 1) c = many k (one c) := by
  induction k with
  | zero => rfl
  | succ k ih => show one (many (k + 1) c) = one (many k (one c)); rw [ih]

theorem many_add (j k c : Nat) : many (j + k) c = many j (many k c) := by
  induction j with
  | zero => rw [Nat.zero_add]; rfl
  | succ j ih => rw [Nat.succ_add]; show one (many (j + k) c) = one (many j (many k c)); rw [ih]

theorem many_shift (k y : Nat) : many k (y * 2 ^ k) = y := by
  induction k generalizing y with
  | zero => show y * 1 = y; omega
  | succ k ih =>
    rw [many_succ, one_even (by rw [Nat.pow_succ, ← Nat.mul_assoc]; omega)]
    rw [show y * 2 ^ (k + 1) / 2 = y * 2 ^ k by rw [Nat.pow_succ, ← Nat.mul_assoc]; omega]
    exact ih y

theorem split_xor (c k : Nat) : c = (c / 2 ^ k * 2 ^ k) ^^^ (c % 2 ^ k) := by
  have h := Nat.div_add_mod c (2 ^ k)
  have h1 := Nat.two_pow_add_eq_or_of_lt (Nat.mod_lt c (Nat.two_pow_pos k)) (c / 2 ^ k)
  apply Nat.eq_of_testBit_eq
  intro i
  rw [Nat.testBit_xor, Nat.testBit_mul_two_pow, Nat.testBit_mod_two_pow, Nat.testBit_div_two_pow]
  by_cases hi : i < k
  · simp [hi, show ¬ k ≤ i by omega]
  · simp [hi, show k ≤ i by omega]

/-- What the table says of a byte. -/
theorem byte_table (c b : Nat) : byte c b = c / 256 ^^^ many 8 ((c % 256) ^^^ b) := by
  unfold byte
  have h : c ^^^ b = (c / 2 ^ 8 * 2 ^ 8) ^^^ ((c % 256) ^^^ b) := by
    rw [← Nat.xor_assoc]
    congr 1
    exact split_xor c 8
  rw [h, many_xor, many_shift]

theorem one_inj {a b : Nat} (ha : a < 4294967296) (hb : b < 4294967296) (h : one a = one b) : a = b := by
  have hp : ∀ x, x < 2147483648 → 2147483648 ≤ x ^^^ poly := by
    intro x hx
    have h1 : (x ^^^ poly).testBit 31 = true := by
      rw [Nat.testBit_xor, Nat.testBit_lt_two_pow (show x < 2 ^ 31 by omega)]
      decide
    have := Nat.ge_two_pow_of_testBit h1
    omega
  rcases Nat.mod_two_eq_zero_or_one a with h1 | h1 <;> rcases Nat.mod_two_eq_zero_or_one b with h2 | h2
  · rw [one_even h1, one_even h2] at h; omega
  · rw [one_even h1, one_odd h2] at h; have := hp (b / 2) (by omega); omega
  · rw [one_odd h1, one_even h2] at h; have := hp (a / 2) (by omega); omega
  · rw [one_odd h1, one_odd h2] at h
    have h3 : a / 2 = b / 2 := cancel_right h
    omega

theorem many_inj (k : Nat) {a b : Nat} (ha : a < 4294967296) (hb : b < 4294967296) (h : many k a = many k b) : a = b := by
  induction k with
  | zero => exact h
  | succ k ih => exact ih (one_inj (many_lt k ha) (many_lt k hb) h)

theorem byte_lt {c b : Nat} (hc : c < 4294967296) (hb : b < 256) : byte c b < 4294967296 := many_lt 8 (xor_lt hc (by omega))

theorem text_lt {c : Nat} (hc : c < 4294967296) (l : List UInt8) : text c l < 4294967296 := by
  induction l generalizing c with
  | nil => exact hc
  | cons b l ih => exact ih (byte_lt hc b.toNat_lt)

theorem text_append (c : Nat) (l m : List UInt8) : text c (l ++ m) = text (text c l) m := by
  unfold text; rw [List.foldl_append]

theorem more_lt (c : Nat) (l : List UInt8) : more c l < 4294967296 := by unfold more top; omega

theorem top_text (c : Nat) (l : List UInt8) : top - more c l = text (top - c) l := by
  have := text_lt (c := top - c) (by unfold top; omega) l
  unfold more; unfold top at *; omega

theorem more_append (c : Nat) (l m : List UInt8) : more c (l ++ m) = more (more c l) m := by
  rw [more, text_append, more, top_text]

theorem more_nil (c : Nat) (h : c < 4294967296) : more c [] = c := by
  unfold more; show top - (top - c) = c; unfold top; omega

theorem byte_inj {a b x : Nat} (ha : a < 4294967296) (hb : b < 4294967296) (hx : x < 256) (h : byte a x = byte b x) : a = b := by
  have := many_inj 8 (xor_lt ha (by omega)) (xor_lt hb (by omega)) h
  exact cancel_right this

theorem text_inj {a b : Nat} (l : List UInt8) (ha : a < 4294967296) (hb : b < 4294967296) (h : text a l = text b l) : a = b := by
  induction l generalizing a b with
  | nil => exact h
  | cons x l ih => exact byte_inj ha hb x.toNat_lt (ih (byte_lt ha x.toNat_lt) (byte_lt hb x.toNat_lt) h)

/-- Four bytes at once. -/
theorem four (n a b c d : Nat) : byte (byte (byte (byte n a) b) c) d = many 32 (n ^^^ (a ^^^ b * 2 ^ 8 ^^^ c * 2 ^ 16 ^^^ d * 2 ^ 24)) := by
  unfold byte
  have hb : b = many 8 (b * 2 ^ 8) := (many_shift 8 b).symm
  have hc : c = many 16 (c * 2 ^ 16) := (many_shift 16 c).symm
  have hd : d = many 24 (d * 2 ^ 24) := (many_shift 24 d).symm
  have e1 : many 8 (n ^^^ a) ^^^ b = many 8 (n ^^^ a ^^^ b * 2 ^ 8) := by rw [many_xor 8 (n ^^^ a), many_shift]
  have e2 : ∀ x, many 8 (many 8 x) ^^^ c = many 16 (x ^^^ c * 2 ^ 16) := by
    intro x; rw [many_xor, many_shift, show (16 : Nat) = 8 + 8 from rfl, many_add]
  have e3 : ∀ x, many 8 (many 16 x) ^^^ d = many 24 (x ^^^ d * 2 ^ 24) := by
    intro x; rw [many_xor, many_shift, show (24 : Nat) = 8 + 16 from rfl, many_add]
  rw [e1, e2, e3, ← many_add]
  simp only [Nat.xor_assoc]

theorem mix_lt {a b c d : Nat} (ha : a < 256) (hb : b < 256) (hc : c < 256) (hd : d < 256) : a ^^^ b * 2 ^ 8 ^^^ c * 2 ^ 16 ^^^ d * 2 ^ 24 < 4294967296 :=
  xor_lt (xor_lt (xor_lt (by omega) (by omega)) (by omega)) (by omega)

theorem mix_sum {a b c d : Nat} (ha : a < 256) (hb : b < 256) (hc : c < 256) : a ^^^ b * 2 ^ 8 ^^^ c * 2 ^ 16 ^^^ d * 2 ^ 24 = a + b * 2 ^ 8 + c * 2 ^ 16 + d * 2 ^ 24 := by
  have h1 : a ^^^ b * 2 ^ 8 = a + b * 2 ^ 8 := by
    have := split_xor (a + b * 2 ^ 8) 8
    rw [show (a + b * 2 ^ 8) / 2 ^ 8 = b by omega, show (a + b * 2 ^ 8) % 2 ^ 8 = a by omega, Nat.xor_comm] at this
    exact this.symm
  have h2 : (a + b * 2 ^ 8) ^^^ c * 2 ^ 16 = a + b * 2 ^ 8 + c * 2 ^ 16 := by
    have := split_xor (a + b * 2 ^ 8 + c * 2 ^ 16) 16
    rw [show (a + b * 2 ^ 8 + c * 2 ^ 16) / 2 ^ 16 = c by omega, show (a + b * 2 ^ 8 + c * 2 ^ 16) % 2 ^ 16 = a + b * 2 ^ 8 by omega, Nat.xor_comm] at this
    exact this.symm
  have h3 : (a + b * 2 ^ 8 + c * 2 ^ 16) ^^^ d * 2 ^ 24 = a + b * 2 ^ 8 + c * 2 ^ 16 + d * 2 ^ 24 := by
    have := split_xor (a + b * 2 ^ 8 + c * 2 ^ 16 + d * 2 ^ 24) 24
    rw [show (a + b * 2 ^ 8 + c * 2 ^ 16 + d * 2 ^ 24) / 2 ^ 24 = d by omega, show (a + b * 2 ^ 8 + c * 2 ^ 16 + d * 2 ^ 24) % 2 ^ 24 = a + b * 2 ^ 8 + c * 2 ^ 16 by omega, Nat.xor_comm] at this
    exact this.symm
  rw [h1, h2, h3]

theorem four_inj {n a b c d a' b' c' d' : Nat} (hn : n < 4294967296) (ha : a < 256) (hb : b < 256) (hc : c < 256) (hd : d < 256) (ha' : a' < 256) (hb' : b' < 256) (hc' : c' < 256) (hd' : d' < 256)
    (h : byte (byte (byte (byte n a) b) c) d = byte (byte (byte (byte n a') b') c') d') : a = a' ∧ b = b' ∧ c = c' ∧ d = d' := by
  rw [four, four] at h
  have h1 := many_inj 32 (xor_lt hn (mix_lt ha hb hc hd)) (xor_lt hn (mix_lt ha' hb' hc' hd')) h
  have h2 := cancel_left h1
  rw [mix_sum ha hb hc, mix_sum ha' hb' hc'] at h2
  omega

/-- The document's steps of a byte: what is left of the byte, and of the number. -/
def bit (n b : Nat) : Nat := if n % 2 ≠ b then (n / 2) ^^^ poly else n / 2

theorem bit_one (n : Nat) (b : Nat) (hb : b < 2) : bit n b = one (n ^^^ b) := by
  have hm := mod_xor n b
  have hd := div_xor n b
  have h0 : b / 2 = 0 := by omega
  rw [h0, Nat.xor_zero] at hd
  unfold bit one
  rw [hd]
  rcases Nat.mod_two_eq_zero_or_one n with h1 | h1 <;> rcases (show b = 0 ∨ b = 1 by omega) with h2 | h2 <;> subst h2 <;> rw [h1] at hm <;> simp [hm, h1]

theorem bit_round (N c k n : Nat) (h : n ^^^ (c / 2 ^ k) = many k (N ^^^ c)) : bit n (c / 2 ^ k % 2) ^^^ (c / 2 ^ (k + 1)) = many (k + 1) (N ^^^ c) := by
  show _ = one (many k (N ^^^ c))
  rw [← h, bit_one _ _ (by omega)]
  have e := split_xor (c / 2 ^ k) 1
  rw [show c / 2 ^ k / 2 ^ 1 = c / 2 ^ (k + 1) by rw [Nat.pow_one, Nat.div_div_eq_div_mul, ← Nat.pow_succ], Nat.pow_one] at e
  conv => rhs; rw [e, Nat.xor_comm (c / 2 ^ (k + 1) * 2), ← Nat.xor_assoc, one_xor]
  congr 1
  exact (many_shift 1 (c / 2 ^ (k + 1))).symm

end CrcPlain
