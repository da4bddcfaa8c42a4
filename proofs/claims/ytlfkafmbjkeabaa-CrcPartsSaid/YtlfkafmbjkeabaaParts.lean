/-
  The CRC-32 of two texts, one behind the other, is More of the first one's, and the second one: the walk of the law.
-/
import Derived.Test.YtlfkafmbjkeabaaTell
namespace Go.Proofs.Ytlfkafmbjkeabaa
open Go.RowKit

set_option maxHeartbeats 400000 in
theorem parts_walk (a b : ByteArray) (ha : a.size ≤ maxLen) (hb : b.size ≤ maxLen) (w : World) :
    Calls Try.prog 4 #[.string a, .string b] w fun e w' => e = .returned (.bool true) ∧ Below w.heap.size w w' := by
  by_cases h : a.size ≤ 1000
  · have h1 : ¬ (1000 < a.size) := by omega
    by_cases h2 : b.size ≤ 1000
    · have h3 : ¬ (1000 < b.size) := by omega
      have hab : (a ++ b).size ≤ maxLen := by rw [ByteArray.size_append]; unfold maxLen; omega
      have hl := CrcPlain.more_lt 0 a.data.toList
      have hm := Lib.hid (CrcPlain.more_append 0 a.data.toList b.data.toList)
      have hz := Lib.hid (CrcPlain.more_nil (CrcPlain.more 0 a.data.toList) hl)
      go_enter Try.func4, Try.ntmps4
      go_wp2_with fail
      refine (sum_any _ hab _).mono ?_
      rintro e w1 ⟨rfl, hb1⟩
      rw [show (a ++ b).data.toList = a.data.toList ++ b.data.toList by simp, hm.out]
      go_wp2_with fail
      refine (sum_any _ ha _).mono ?_
      rintro e w2 ⟨rfl, hb2⟩
      go_wp2_with fail
      refine (more_any _ _ hl hb _).mono ?_
      rintro e w3 ⟨rfl, hb3⟩
      go_wp2_with fail
      refine (sum_any _ ha _).mono ?_
      rintro e w4 ⟨rfl, hb4⟩
      go_wp2_with fail
      refine (more_any _ _ hl (by decide) _).mono ?_
      rintro e w5 ⟨rfl, hb5⟩
      rw [show (ByteArray.mk #[]).data.toList = [] from rfl, hz.out]
      go_wp2_with fail
      refine (sum_any _ ha _).mono ?_
      rintro e w6 ⟨rfl, hb6⟩
      go_wp2_with fail
      refine (checked_any _).mono ?_
      rintro e w7 ⟨rfl, hb7⟩
      go_wp2
      go_ret
      have l := Nat.le_refl w.heap.size
      exact ⟨rfl, below_trans l (below_trans l (below_trans l (below_trans l (below_trans l (below_trans l hb1 hb2) hb3) hb4) hb5) hb6) hb7⟩
    · have h3 : 1000 < b.size := by omega
      go_enter Try.func4, Try.ntmps4
      go_wp2_with fail
      refine (checked_any _).mono ?_
      rintro e w3 ⟨rfl, hb3⟩
      go_wp2
      go_ret
      exact ⟨rfl, hb3⟩
  · have h1 : 1000 < a.size := by omega
    go_enter Try.func4, Try.ntmps4
    go_wp2_with fail
    refine (checked_any _).mono ?_
    rintro e w3 ⟨rfl, hb3⟩
    go_wp2
    go_ret
    exact ⟨rfl, hb3⟩

end Go.Proofs.Ytlfkafmbjkeabaa
