/-
  The CRC-32 of any bytes, and of any that go on from any number, is the document's: for each number and each string: whatever the length (longer ones than 2000 bytes: the chapter's examples alone are asked).
-/
import Derived.Test.YtlfkafmbjkeabaaTab
import Derived.ProofKit
import Derived.OpenShut
import Derived.ShutString
import Derived.ChangeOld
import Derived.Below
namespace Go.Proofs.Ytlfkafmbjkeabaa
open Go.RowKit

set_option maxHeartbeats 400000 in
theorem sum_any (s : ByteArray) (hs : s.size ≤ maxLen) (w : World) :
    Calls Try.prog 7 #[.string s] w fun e w' => e = .returned (.int .u32 (CrcPlain.more 0 s.data.toList : Nat)) ∧ Below w.heap.size w w' := by
  go_enter Try.func7, Try.ntmps7
  go_wp2_with fail
  refine (more_any 0 s (by omega) hs _).mono ?_
  rintro e w' ⟨rfl, hb⟩
  go_wp2
  go_ret
  exact ⟨rfl, hb⟩

theorem more_ex0 : CrcPlain.more 0 [] = 0 := by decide +kernel
theorem more_ex9 : CrcPlain.more 0 [49, 50, 51, 52, 53, 54, 55, 56, 57] = 3421780262 := by decide +kernel
theorem more_ex4 : CrcPlain.more (CrcPlain.more 0 [49, 50, 51, 52]) [53, 54, 55, 56, 57] = 3421780262 := by decide +kernel

set_option maxHeartbeats 400000 in
theorem checked_any (w : World) :
    Calls Try.prog 6 #[] w fun e w' => e = .returned (.bool true) ∧ Below w.heap.size w w' := by
  have e0 := Lib.hid more_ex0
  have e9 := Lib.hid more_ex9
  have e4 := Lib.hid more_ex4
  have hl := CrcPlain.more_lt 0 [49, 50, 51, 52]
  go_enter Try.func6, Try.ntmps6
  go_wp2_with fail
  refine (sum_any _ (by decide) _).mono ?_
  rintro e w1 ⟨rfl, hb1⟩
  rw [e0.out]
  go_wp2_with fail
  refine (sum_any _ (by decide) _).mono ?_
  rintro e w2 ⟨rfl, hb2⟩
  rw [e9.out]
  go_wp2_with fail
  refine (sum_any _ (by decide) _).mono ?_
  rintro e w3 ⟨rfl, hb3⟩
  go_wp2_with fail
  refine (more_any _ _ hl (by decide) _).mono ?_
  rintro e w4 ⟨rfl, hb4⟩
  rw [e4.out]
  go_wp2
  go_ret
  exact ⟨rfl, ((hb1.trans (hb2.mono hb1.size)).trans (hb3.mono (by have := hb1.size; have := hb2.size; omega))).trans (hb4.mono (by have := hb1.size; have := hb2.size; have := hb3.size; omega))⟩


theorem below_trans {B : Nat} {a b c : World} (hB : B ≤ a.heap.size) (h : Below B a b) (k : Below b.heap.size b c) : Below B a c :=
  h.trans (k.mono (Nat.le_trans hB h.size))

set_option maxHeartbeats 400000 in
theorem tell_walk (n : Nat) (s : ByteArray) (hn : n < 4294967296) (hs : s.size ≤ maxLen) (w : World) :
    Calls Try.prog 3 #[.int .u32 (n : Int), .string s] w fun e w' => e = .returned (.bool true) ∧ Below w.heap.size w w' := by
  by_cases h : s.size ≤ 2000
  · have h1 : ¬ (2000 < s.size) := by omega
    go_enter Try.func3, Try.ntmps3
    go_wp2_with fail
    refine (sum_any _ hs _).mono ?_
    rintro e w1 ⟨rfl, hb1⟩
    go_wp2_with fail
    refine (refSum_any _ hs _).mono ?_
    rintro e w' ⟨rfl, rfl⟩
    go_wp2_with fail
    refine (more_any _ _ hn hs _).mono ?_
    rintro e w2 ⟨rfl, hb2⟩
    go_wp2_with fail
    refine (refMore_any _ _ hn hs _).mono ?_
    rintro e w' ⟨rfl, rfl⟩
    go_wp2_with fail
    refine (checked_any _).mono ?_
    rintro e w3 ⟨rfl, hb3⟩
    go_wp2
    go_ret
    exact ⟨rfl, below_trans (Nat.le_refl _) (below_trans (Nat.le_refl _) hb1 hb2) hb3⟩
  · have h1 : 2000 < s.size := by omega
    go_enter Try.func3, Try.ntmps3
    go_wp2_with fail
    refine (checked_any _).mono ?_
    rintro e w3 ⟨rfl, hb3⟩
    go_wp2
    go_ret
    exact ⟨rfl, hb3⟩

theorem own : ownKnob Try.prog.godebug = none := by kernel_rfl
theorem laidOut : laidOutB Try.prog = true := by kernel_rfl

end Go.Proofs.Ytlfkafmbjkeabaa
