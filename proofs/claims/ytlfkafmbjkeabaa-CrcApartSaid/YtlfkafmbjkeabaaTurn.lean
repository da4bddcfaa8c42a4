/-
  The plain law: two texts of one length that differ within four bytes that stand together have not the same CRC-32.
-/
import Derived.Test.YtlfkafmbjkeabaaPlain
namespace CrcPlain

/-- The byte at j, behind k rounds. -/
def val (l : List UInt8) (p : Nat) (y : Nat → Nat) (k j : Nat) : Nat := if p ≤ j ∧ j < p + k then (l.getD j 0).toNat ^^^ y (j - p) else (l.getD j 0).toNat

theorem val_start (l : List UInt8) (p : Nat) (y : Nat → Nat) (j : Nat) : val l p y 0 j = (l.getD j 0).toNat := by
  unfold val; rw [if_neg (by omega)]

theorem val_at (l : List UInt8) (p : Nat) (y : Nat → Nat) (k : Nat) : val l p y k (p + k) = (l.getD (p + k) 0).toNat := by
  unfold val; rw [if_neg (by omega)]

theorem val_next (l : List UInt8) (p : Nat) (y : Nat → Nat) (k : Nat) : val l p y (k + 1) (p + k) = (l.getD (p + k) 0).toNat ^^^ y k := by
  unfold val; rw [if_pos (by omega), show p + k - p = k by omega]

theorem val_other (l : List UInt8) (p : Nat) (y : Nat → Nat) (k j : Nat) (h : j ≠ p + k) : val l p y (k + 1) j = val l p y k j := by
  unfold val
  by_cases h1 : p ≤ j ∧ j < p + k
  · rw [if_pos h1, if_pos (by omega)]
  · rw [if_neg h1, if_neg (by omega)]

/-- All bytes, turned over. -/
def nums (l : List UInt8) (p : Nat) (y : Nat → Nat) : List Int := (List.range l.length).map fun j => ((val l p y 4 j : Nat) : Int)
def turn (l : List UInt8) (p : Nat) (y : Nat → Nat) : List UInt8 := (nums l p y).map fun n => UInt8.ofNat n.toNat

theorem nums_length (l : List UInt8) (p : Nat) (y : Nat → Nat) : (nums l p y).length = l.length := by simp [nums]
theorem nums_get (l : List UInt8) (p : Nat) (y : Nat → Nat) (j : Nat) (h : j < l.length) : (nums l p y).getD j 0 = ((val l p y 4 j : Nat) : Int) := by
  simp [nums, h]

theorem cut_four (l : List UInt8) (p : Nat) (h : p + 3 < l.length) : ∃ A x0 x1 x2 x3 D, l = A ++ x0 :: x1 :: x2 :: x3 :: D ∧ A.length = p := by
  have e0 := List.drop_eq_getElem_cons (l := l) (i := p) (by omega)
  have e1 := List.drop_eq_getElem_cons (l := l) (i := p + 1) (by omega)
  have e2 := List.drop_eq_getElem_cons (l := l) (i := p + 1 + 1) (by omega)
  have e3 := List.drop_eq_getElem_cons (l := l) (i := p + 1 + 1 + 1) (by omega)
  refine ⟨l.take p, l[p], l[p + 1], l[p + 1 + 1], l[p + 1 + 1 + 1], l.drop (p + 1 + 1 + 1 + 1), ?_, by simp; omega⟩
  rw [← e3, ← e2, ← e1, ← e0, List.take_append_drop]

theorem turn_cut (A D : List UInt8) (x0 x1 x2 x3 : UInt8) (y : Nat → Nat) :
    turn (A ++ x0 :: x1 :: x2 :: x3 :: D) A.length y = A ++ UInt8.ofNat (x0.toNat ^^^ y 0) :: UInt8.ofNat (x1.toNat ^^^ y 1) :: UInt8.ofNat (x2.toNat ^^^ y 2) :: UInt8.ofNat (x3.toNat ^^^ y 3) :: D := by
  apply List.ext_getElem
  · simp [turn, nums]
  · intro j h1 h2
    have hj : j < (A ++ x0 :: x1 :: x2 :: x3 :: D).length := by simpa [turn, nums] using h1
    simp only [turn, nums, List.getElem_map, List.getElem_range, Int.toNat_natCast]
    unfold val
    rw [List.getD_eq_getElem?_getD, List.getElem?_eq_getElem hj, Option.getD_some]
    by_cases c1 : j < A.length
    · rw [if_neg (by omega), List.getElem_append_left c1, List.getElem_append_left c1]; simp
    · obtain ⟨i, rfl⟩ : ∃ i, j = A.length + i := ⟨j - A.length, by omega⟩
      rw [List.getElem_append_right (by omega), List.getElem_append_right (by omega)]
      simp only [Nat.add_sub_cancel_left]
      rcases (show i = 0 ∨ i = 1 ∨ i = 2 ∨ i = 3 ∨ 4 ≤ i by omega) with rfl | rfl | rfl | rfl | hi
      · rw [if_pos (by omega)]; rfl
      · rw [if_pos (by omega)]; rfl
      · rw [if_pos (by omega)]; rfl
      · rw [if_pos (by omega)]; rfl
      · rw [if_neg (by omega)]
        obtain ⟨q, rfl⟩ : ∃ q, i = q + 1 + 1 + 1 + 1 := ⟨i - 4, by omega⟩
        simp

theorem xor_zero_of {x y : Nat} (h : x ^^^ y = x) : y = 0 := by
  have : x ^^^ y = x ^^^ 0 := by rw [h, Nat.xor_zero]
  exact cancel_left this

theorem turn_apart (l : List UInt8) (p : Nat) (y : Nat → Nat) (hp : p + 3 < l.length) (hy : ∀ i, i < 4 → y i < 256) (h : more 0 (turn l p y) = more 0 l) : y 0 = 0 ∧ y 1 = 0 ∧ y 2 = 0 ∧ y 3 = 0 := by
  obtain ⟨A, x0, x1, x2, x3, D, rfl, rfl⟩ := cut_four l p hp
  rw [turn_cut] at h
  have h1 := congrArg (top - ·) h
  simp only [top_text] at h1
  rw [text_append, text_append] at h1
  have ht : top - 0 < 4294967296 := by decide
  have hA := text_lt ht A
  generalize text (top - 0) A = t at *
  have l0 : ∀ (x : UInt8) (i : Nat), i < 4 → (UInt8.ofNat (x.toNat ^^^ y i)).toNat = x.toNat ^^^ y i := by
    intro x i hi
    have : x.toNat ^^^ y i < 256 := Nat.xor_lt_two_pow (n := 8) (UInt8.toNat_lt x) (hy i hi)
    rw [UInt8.toNat_ofNat']
    exact Nat.mod_eq_of_lt this
  have hx : ∀ (x : UInt8) (i : Nat), i < 4 → x.toNat ^^^ y i < 256 := fun x i hi => Nat.xor_lt_two_pow (n := 8) (UInt8.toNat_lt x) (hy i hi)
  have b8 : ∀ x : UInt8, x.toNat < 256 := fun x => UInt8.toNat_lt x
  have h2 : text (byte (byte (byte (byte t (x0.toNat ^^^ y 0)) (x1.toNat ^^^ y 1)) (x2.toNat ^^^ y 2)) (x3.toNat ^^^ y 3)) D = text (byte (byte (byte (byte t x0.toNat) x1.toNat) x2.toNat) x3.toNat) D := by
    have e := h1
    simp only [text, List.foldl_cons, l0 x0 0 (by omega), l0 x1 1 (by omega), l0 x2 2 (by omega), l0 x3 3 (by omega)] at e
    exact e
  have h3 := text_inj D (byte_lt (byte_lt (byte_lt (byte_lt hA (hx x0 0 (by omega))) (hx x1 1 (by omega))) (hx x2 2 (by omega))) (hx x3 3 (by omega))) (byte_lt (byte_lt (byte_lt (byte_lt hA (b8 x0)) (b8 x1)) (b8 x2)) (b8 x3)) h2
  obtain ⟨q0, q1, q2, q3⟩ := four_inj hA (hx x0 0 (by omega)) (hx x1 1 (by omega)) (hx x2 2 (by omega)) (hx x3 3 (by omega)) (b8 x0) (b8 x1) (b8 x2) (b8 x3) h3
  exact ⟨xor_zero_of q0, xor_zero_of q1, xor_zero_of q2, xor_zero_of q3⟩

end CrcPlain
