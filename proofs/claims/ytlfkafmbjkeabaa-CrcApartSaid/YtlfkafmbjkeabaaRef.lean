/-
  The walks of the document's side (lighterref03): a step, the steps of all bytes, Sum, More.
-/
import Derived.Test.YtlfkafmbjkeabaaRows
import Derived.Test.YtlfkafmbjkeabaaPlain
import Derived.WalkKit
import Derived.WalkSpells
import Derived.WalkLawsBesides
import Derived.Lib.Hide
namespace Go.Proofs.Ytlfkafmbjkeabaa
open Go.RowKit

theorem ret_int {k : IntKind} {a b : Int} (h : a = b) : Ending.returned (.int k a) = .returned (.int k b) := by rw [h]

theorem u32_xor_poly (n : Nat) (h : n < 4294967296) : bits .xor .u32 ((n : Int) / 2) 3988292384 = ((n / 2 ^^^ CrcPlain.poly : Nat) : Int) :=
  u32_xor_nat (n / 2) 3988292384 (by omega) (by decide)

set_option maxHeartbeats 400000 in
theorem step_any (n b : Nat) (hn : n < 4294967296) (hb : b < 2) (w : World) :
    Calls Try.prog 13 #[.int .u32 (n : Int), .int .u32 (b : Int)] w fun e w' => e = .returned (.int .u32 (CrcPlain.bit n b : Nat)) ∧ w = w' := by
  have hx := u32_xor_poly n hn
  by_cases h : n % 2 = b
  · have h1 : (((n % 2 : Nat) : Int) != (b : Int)) = false := by rw [bne_eq_false_iff_eq]; omega
    go_enter Try.func13, Try.ntmps13
    go_wp2
    go_ret
    exact ⟨ret_int (by unfold CrcPlain.bit; rw [if_neg (by omega)]; rfl), rfl⟩
  · have h1 : (((n % 2 : Nat) : Int) != (b : Int)) = true := by rw [bne_iff_ne]; omega
    go_enter Try.func13, Try.ntmps13
    go_wp2
    go_ret
    exact ⟨ret_int (by unfold CrcPlain.bit; rw [if_pos (by omega)]; first | done | exact hx), rfl⟩

/-- What is left of a byte, and of the number, behind k steps. -/
def Round (N c k n : Nat) : Prop := n < 4294967296 ∧ n ^^^ (c / 2 ^ k) = CrcPlain.many k (N ^^^ c)

theorem round_start (N c : Nat) (h : N < 4294967296) : Round N c 0 N := ⟨h, by simp [CrcPlain.many]⟩

theorem bit_lt {n b : Nat} (hn : n < 4294967296) : CrcPlain.bit n b < 4294967296 := by
  unfold CrcPlain.bit; split
  · exact CrcPlain.xor_lt (by omega) (by decide)
  · omega

theorem round_next {N c k n : Nat} (h : Round N c k n) : Round N c (k + 1) (CrcPlain.bit n (c / 2 ^ k % 2)) :=
  ⟨bit_lt h.1, CrcPlain.bit_round N c k n h.2⟩

theorem round_end {N c n : Nat} (hc : c < 256) (h : Round N c 8 n) : n = CrcPlain.byte N c := by
  have h2 := h.2
  rw [show c / 2 ^ 8 = 0 by omega, Nat.xor_zero] at h2
  exact h2

theorem text_snoc (c : Nat) (s : ByteArray) (k : Nat) (h : k < s.size) :
    CrcPlain.text c (s.data.toList.take (k + 1)) = CrcPlain.byte (CrcPlain.text c (s.data.toList.take k)) s[k].toNat := by
  rw [List.take_succ_eq_append_getElem (by simpa using h), CrcPlain.text_append]; rfl

set_option maxHeartbeats 1000000 in
theorem steps_any (n : Nat) (s : ByteArray) (hn : n < 4294967296) (hs : s.size ≤ maxLen) (w : World) :
    Calls Try.prog 11 #[.int .u32 (n : Int), .string s] w fun e w' => e = .returned (.int .u32 (CrcPlain.text n s.data.toList : Nat)) ∧ w = w' := by
  unfold maxLen at hs
  go_enter Try.func11, Try.ntmps11
  go_wp2
  go_loop [0, 5] (fun c i => ∃ k : Nat, k ≤ s.size ∧ i = .int .i64 k ∧ c = .int .u32 (CrcPlain.text n (s.data.toList.take k) : Nat)) (fun _ i => s.size - (intOf i).toNat)
  case atStart => exact ⟨0, Nat.zero_le _, rfl, rfl⟩
  case round =>
    obtain ⟨k, hk, rfl, rfl⟩ := hrel
    by_cases hlt : k < s.size
    · have hT := CrcPlain.text_lt hn (s.data.toList.take k)
      have hsn := text_snoc n s k hlt
      obtain ⟨N, hN⟩ : ∃ N, CrcPlain.text n (s.data.toList.take k) = N := ⟨_, rfl⟩
      rw [hN] at hT hsn
      rw [hN]
      have HS := Lib.hid hsn
      clear hsn hN
      have hc := s[k].toNat_lt
      obtain ⟨c, hcc⟩ : ∃ c, s[k].toNat = c := ⟨_, rfl⟩
      rw [hcc] at hc
      have HC := Lib.hid hcc
      go_wp2
      clear hcc
      go_loop [0, 6, 7] (fun m d j => ∃ r v : Nat, r ≤ 8 ∧ j = .int .i64 r ∧ Round N c r v ∧ m = .int .u32 v ∧ d = .int .u32 (c / 2 ^ r : Nat)) (fun _ _ j => 8 - (intOf j).toNat)
      case atStart => exact ⟨0, N, by omega, rfl, round_start N c hT, rfl, by simp⟩
      case round =>
        obtain ⟨r, v, hr, rfl, hR, rfl, rfl⟩ := hrel
        have hv := hR.1
        have hnext := Lib.hid (round_next hR)
        have hend := Lib.hid (fun h : r = 8 => round_end (N := N) hc (h ▸ hR))
        have hd : c / 2 ^ r < 256 := Nat.lt_of_le_of_lt (Nat.div_le_self _ _) hc
        have hd2 : c / 2 ^ (r + 1) = c / 2 ^ r / 2 := by rw [Nat.pow_succ, Nat.div_div_eq_div_mul]
        obtain ⟨d, hdd⟩ : ∃ d, c / 2 ^ r = d := ⟨_, rfl⟩
        rw [hdd] at hd hd2
        have hnext' := hnext.out
        rw [hdd] at hnext' ⊢
        have hnext2 := Lib.hid hnext'
        have hd2' := Lib.hid hd2
        clear hnext hnext' hdd hd2 hR
        by_cases hlt8 : r < 8
        · go_wp2_with (go_at_call 13; refine (step_any v (d % 2) (by omega) (by omega) _).mono ?_; rintro e w' ⟨rfl, rfl⟩)
          go_round
          case rel => exact ⟨r + 1, _, by omega, by go_num, hnext2.out, rfl, by rw [hd2'.out]; rfl⟩
          case measure => simp [intOf]; omega
        · go_wp2
          go_round
          case rel => exact ⟨k + 1, by omega, by go_num, by rw [HS.out, HC.out, hend.out (by omega)]⟩
          case measure => simp [intOf]; omega
    · go_wp2
      go_ret
      exact ⟨ret_int (by rw [List.take_of_length_le (by simp; omega)]), rfl⟩


theorem top_sub (x : Nat) (h : x < 4294967296) : IntKind.u32.wrap (4294967295 - (x : Int)) = ((CrcPlain.top - x : Nat) : Int) := by
  rw [IntKind.wrap_u32']; unfold CrcPlain.top; omega

set_option maxHeartbeats 400000 in
theorem refMore_any (n : Nat) (s : ByteArray) (hn : n < 4294967296) (hs : s.size ≤ maxLen) (w : World) :
    Calls Try.prog 10 #[.int .u32 (n : Int), .string s] w fun e w' => e = .returned (.int .u32 (CrcPlain.more n s.data.toList : Nat)) ∧ w = w' := by
  have hn2 : (n : Int) ≤ 4294967295 := by omega
  have hT := CrcPlain.text_lt (c := CrcPlain.top - n) (by unfold CrcPlain.top; omega) s.data.toList
  have hE : CrcPlain.more n s.data.toList = CrcPlain.top - CrcPlain.text (CrcPlain.top - n) s.data.toList := rfl
  obtain ⟨T, hTT⟩ : ∃ T, CrcPlain.text (CrcPlain.top - n) s.data.toList = T := ⟨_, rfl⟩
  rw [hTT] at hT hE
  have HE := Lib.hid hE
  have HT := Lib.hid hTT
  clear hE hTT
  go_enter Try.func10, Try.ntmps10
  go_wp2_with fail
  rw [show ((4294967295 : Int) - (n : Int)) = ((CrcPlain.top - n : Nat) : Int) by unfold CrcPlain.top; omega]
  refine (steps_any (CrcPlain.top - n) s (by unfold CrcPlain.top; omega) hs _).mono ?_
  rintro e w' ⟨rfl, rfl⟩
  rw [HT.out]
  go_wp2
  go_ret
  exact ⟨ret_int (by rw [HE.out]; first | rfl | (unfold CrcPlain.top; omega)), rfl⟩

set_option maxHeartbeats 400000 in
theorem refSum_any (s : ByteArray) (hs : s.size ≤ maxLen) (w : World) :
    Calls Try.prog 8 #[.string s] w fun e w' => e = .returned (.int .u32 (CrcPlain.more 0 s.data.toList : Nat)) ∧ w = w' := by
  have hT := CrcPlain.text_lt (c := 4294967295) (by omega) s.data.toList
  have hE : CrcPlain.more 0 s.data.toList = CrcPlain.top - CrcPlain.text 4294967295 s.data.toList := rfl
  obtain ⟨T, hTT⟩ : ∃ T, CrcPlain.text 4294967295 s.data.toList = T := ⟨_, rfl⟩
  rw [hTT] at hT hE
  have HE := Lib.hid hE
  have HT := Lib.hid hTT
  clear hE hTT
  go_enter Try.func8, Try.ntmps8
  go_wp2_with fail
  refine (steps_any 4294967295 s (by omega) hs _).mono ?_
  rintro e w' ⟨rfl, rfl⟩
  rw [HT.out]
  go_wp2
  go_ret
  exact ⟨ret_int (by rw [HE.out]; first | rfl | (unfold CrcPlain.top; omega)), rfl⟩

end Go.Proofs.Ytlfkafmbjkeabaa
