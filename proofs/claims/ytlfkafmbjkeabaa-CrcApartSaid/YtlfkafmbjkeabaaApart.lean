/-
  Texts of one length that differ in bits that stand within four bytes have not the same CRC-32: the walk of the law.
-/
import Derived.Test.YtlfkafmbjkeabaaTell
import Derived.Test.YtlfkafmbjkeabaaTurn
import Derived.Lib.ConvBytes
import Derived.Laws.BytesArg
namespace Go.Proofs.Ytlfkafmbjkeabaa
open Go.RowKit
open CrcPlain (val val_start val_at val_next val_other)

theorem size5 : (Try.prog.info? 5).map (·.size) = some 1 := by kernel_rfl

/-- '==' of two arrays of four bytes, the second one of zeros. -/
theorem eq29 (a b c d : Int) (w : World) : (Op.equalIn 10000 29 (.agg #[.int .u8 a, .int .u8 b, .int .u8 c, .int .u8 d]) (.agg #[.int .u8 0, .int .u8 0, .int .u8 0, .int .u8 0])).run Try.prog w = .ok (a == 0 && (b == 0 && (c == 0 && d == 0))) w := by
  show (Op.equalIn (9999 + 1) 29 _ _).run Try.prog w = _
  have hi := size5
  cases hq : Try.prog.info? 5 with
  | none => simp [hq] at hi
  | some i =>
    have hs : i.size = 1 := by simpa [hq] using hi
    have he : ∀ x y : Int, (Op.equalIn 9999 5 (.int .u8 x) (.int .u8 y)).run Try.prog w = .ok (x == y) w := fun x y => run_equalIn_int w 9998 5 .u8 .u8 x y Try.underlying5
    rw [Op.equalIn]
    simp [Sem.run_bind, run_underlying Try.underlying29, run_underlying Try.underlying5, part, isAgg, sizeOf, typeInfo, hq, hs, he, List.range']
    by_cases ha : a = 0 <;> by_cases hb : b = 0 <;> by_cases hc : c = 0 <;> by_cases hd : d = 0 <;> simp [ha, hb, hc, hd]

set_option maxHeartbeats 400000 in
theorem apart_short (s : ByteArray) (n b0 b1 b2 b3 : Nat) (w : World) (h : s.size < 4 ∨ 500 < s.size ∨ (b0 = 0 ∧ b1 = 0 ∧ b2 = 0 ∧ b3 = 0)) :
    Calls Try.prog 5 #[.string s, .int .u16 (n : Int), .agg #[.int .u8 (b0 : Int), .int .u8 (b1 : Int), .int .u8 (b2 : Int), .int .u8 (b3 : Int)]] w fun e w' => e = .returned (.bool true) ∧ Below w.heap.size w w' := by
  by_cases h1 : s.size < 4
  · go_enter Try.func5, Try.ntmps5
    go_wp2_with fail
    refine (checked_any _).mono ?_
    rintro e w3 ⟨rfl, hb3⟩
    go_wp2
    go_ret
    exact ⟨rfl, below_trans (Nat.le_refl _) ((Below.refl _ _).alloc (Nat.le_refl _) _) hb3⟩
  · by_cases h2 : 500 < s.size
    · go_enter Try.func5, Try.ntmps5
      go_wp2_with fail
      refine (checked_any _).mono ?_
      rintro e w3 ⟨rfl, hb3⟩
      go_wp2
      go_ret
      exact ⟨rfl, below_trans (Nat.le_refl _) ((Below.refl _ _).alloc (Nat.le_refl _) _) hb3⟩
    · obtain ⟨rfl, rfl, rfl, rfl⟩ : b0 = 0 ∧ b1 = 0 ∧ b2 = 0 ∧ b3 = 0 := by omega
      have hz := eq29 0 0 0 0
      go_enter Try.func5, Try.ntmps5
      go_wp2_with fail
      refine (checked_any _).mono ?_
      rintro e w3 ⟨rfl, hb3⟩
      go_wp2
      go_ret
      exact ⟨rfl, below_trans (Nat.le_refl _) ((Below.refl _ _).alloc (Nat.le_refl _) _) hb3⟩


/-- What the loop keeps: the bytes' row is turned over as far as round k; the four bytes lie as they lay. -/
structure Turned (l : List UInt8) (p : Nat) (y : Nat → Nat) (B : Nat) (w wr : World) (k : Nat) : Prop where
  below : Below B w wr
  size : B + 1 < wr.heap.size
  cell : ∀ j, j < l.length → wr.cell? ⟨B + 1, j, none⟩ = some (.int .u8 (val l p y k j : Nat))
  free : ∀ j, j < l.length → wr.frozen? ⟨B + 1, j, none⟩ = false
  four : ∀ j, j < 4 → wr.cell? ⟨B, j, none⟩ = some (.int .u8 (y j : Nat))

theorem turned_next {l : List UInt8} {p : Nat} {y : Nat → Nat} {B : Nat} {w wr : World} {k : Nat} (h : Turned l p y B w wr k) (hB : B = w.heap.size) (hp : p + k < l.length) :
    Turned l p y B w ((wr.setCell ⟨B + 1, p + k, none⟩ (.int .u8 ((l.getD (p + k) 0).toNat ^^^ y k : Nat))).drew) (k + 1) := by
  have hc := h.cell (p + k) hp
  refine ⟨(h.below.setCell (by simp [hB]) _).drew, by have := h.size; simpa using this, fun j hj => ?_, fun j hj => ?_, fun j hj => ?_⟩
  · rw [World.cell?_drew]
    by_cases e : j = p + k
    · subst e
      rw [val_next]
      exact World.cell?_setCell_same _ _ _ hc
    · rw [val_other l p y k j e, World.cell?_setCell_other _ _ _ _ (by simp <;> omega)]
      exact h.cell j hj
  · rw [World.frozen?_drew, World.frozen?_setCell]
    exact h.free j hj
  · rw [World.cell?_drew, World.cell?_setCell_other _ _ _ _ (by simp)]
    exact h.four j hj

set_option maxHeartbeats 1000000 in
set_option maxRecDepth 100000 in
theorem apart_walk (s : ByteArray) (n b0 b1 b2 b3 : Nat) (w : World) (h1 : 4 ≤ s.size) (h2 : s.size ≤ 500) (hb0 : b0 < 256) (hb1 : b1 < 256) (hb2 : b2 < 256) (hb3 : b3 < 256) (hn : n < 65536)
    (hne : ((b0 : Int) == 0 && ((b1 : Int) == 0 && ((b2 : Int) == 0 && (b3 : Int) == 0))) = false) :
    Calls Try.prog 5 #[.string s, .int .u16 (n : Int), .agg #[.int .u8 (b0 : Int), .int .u8 (b1 : Int), .int .u8 (b2 : Int), .int .u8 (b3 : Int)]] w fun e w' => e = .returned (.bool true) ∧ Below w.heap.size w w' := by
  have h3 : ¬ (s.size < 4) := by omega
  have h4 : ¬ (500 < s.size) := by omega
  have hz := eq29 b0 b1 b2 b3
  rw [hne] at hz
  have hconv := fun w => Lib.run_convert_string_bytes (P := Try.prog) w 9 30 5 s Try.underlying9 Try.underlying30 Try.underlying5
  obtain ⟨p, hp, hps⟩ : ∃ p : Nat, (n : Int) % ((s.size : Int) - 3) = (p : Int) ∧ p + 3 < s.size := by
    refine ⟨n % (s.size - 3), ?_, ?_⟩
    · rw [Int.natCast_emod, Int.natCast_sub (by omega)]; rfl
    · have := Nat.mod_lt n (show 0 < s.size - 3 by omega); omega
  have hT : Turned s.data.toList p (fun i => [b0, b1, b2, b3].getD i 0) w.heap.size w (Lib.bytesWorld (w.alloc (.cells #[.int .u8 (b0 : Int), .int .u8 (b1 : Int), .int .u8 (b2 : Int), .int .u8 (b3 : Int)] 29)) 5 s) 0 := by
    have hl : s.data.toList.length = s.size := by simp
    have hsz : (w.alloc (.cells #[.int .u8 (b0 : Int), .int .u8 (b1 : Int), .int .u8 (b2 : Int), .int .u8 (b3 : Int)] 29)).heap.size = w.heap.size + 1 := by simp
    refine ⟨?_, ?_, ?_, ?_, ?_⟩
    · exact ((Below.refl _ _).alloc (Nat.le_refl _) _).trans ⟨rfl, rfl, rfl, by rw [Lib.bytesWorld_size]; omega, fun k hk => Lib.bytesWorld_at_old _ _ _ _ (by omega)⟩
    · rw [Lib.bytesWorld_size]; simp
    · intro j hj
      have := Lib.bytesWorld_cell (w.alloc (.cells #[.int .u8 (b0 : Int), .int .u8 (b1 : Int), .int .u8 (b2 : Int), .int .u8 (b3 : Int)] 29)) 5 s j (by omega)
      rw [hsz] at this
      rw [this, val_start]
    · intro j hj
      have := Lib.bytesWorld_at_new (w.alloc (.cells #[.int .u8 (b0 : Int), .int .u8 (b1 : Int), .int .u8 (b2 : Int), .int .u8 (b3 : Int)] 29)) 5 s
      rw [hsz] at this
      simp only [World.frozen?, this]
      have hc : s.size ≤ (Lib.bytesCells (w.alloc (.cells #[.int .u8 (b0 : Int), .int .u8 (b1 : Int), .int .u8 (b2 : Int), .int .u8 (b3 : Int)] 29)) 5 s).size := by
        simp [Lib.bytesCells]
      rw [decide_eq_false (by omega)]
      rfl
    · intro j hj
      rw [Lib.bytesWorld_old _ _ _ _ (by simp)]
      rcases (show j = 0 ∨ j = 1 ∨ j = 2 ∨ j = 3 by omega) with rfl | rfl | rfl | rfl <;> simp
  have HT := Lib.hid hT
  clear hT
  go_enter Try.func5, Try.ntmps5
  go_wp2
  generalize Lib.bytesWorld (w.alloc (.cells #[.int .u8 (b0 : Int), .int .u8 (b1 : Int), .int .u8 (b2 : Int), .int .u8 (b3 : Int)] 29)) 5 s = W1 at *
  generalize grownCap (w.alloc (.cells #[.int .u8 (b0 : Int), .int .u8 (b1 : Int), .int .u8 (b2 : Int), .int .u8 (b3 : Int)] 29)) s.size 0 5 = cap at *
  go_loopw [9] (fun i wr => ∃ k : Nat, k ≤ 4 ∧ i = .int .i64 k ∧ Turned s.data.toList p (fun i => [b0, b1, b2, b3].getD i 0) w.heap.size w wr k) (fun i _ => 4 - (intOf i).toNat)
  case atStart => exact ⟨0, by omega, rfl, HT.out⟩
  case round =>
    obtain ⟨k, hk, rfl, hS⟩ := hrel
    by_cases hlt : k < 4
    · have hlen : s.data.toList.length = s.size := by simp
      have hX := hS.cell (p + k) (by omega)
      have hF := hS.free (p + k) (by omega)
      have hY := hS.four k hlt
      have hN := Lib.hid (turned_next hS rfl (by omega))
      rw [val_at] at hX
      obtain ⟨x, hx⟩ : ∃ x, (s.data.toList.getD (p + k) 0).toNat = x := ⟨_, rfl⟩
      obtain ⟨y, hy⟩ : ∃ y, [b0, b1, b2, b3].getD k 0 = y := ⟨_, rfl⟩
      have hxl : x < 256 := by rw [← hx]; exact UInt8.toNat_lt _
      have hyl : y < 256 := by
        rw [← hy]
        rcases (show k = 0 ∨ k = 1 ∨ k = 2 ∨ k = 3 by omega) with rfl | rfl | rfl | rfl <;> simpa
      have hxor := u8_xor_nat x y hxl hyl
      simp only [hx, hy] at hX hY hN
      have HS := Lib.hid hS
      clear hx hy hS hlen
      go_wp2
      go_region
      all_goals
        go_wp2
        go_roundw
        case rel => exact ⟨k + 1, by omega, by go_num, hN.out⟩
        case measure => simp [intOf]; omega
    · obtain rfl : k = 4 := by omega
      have hlen : s.data.toList.length = s.size := by simp
      obtain ⟨y, hy⟩ : ∃ y : Nat → Nat, (fun i => [b0, b1, b2, b3].getD i 0) = y := ⟨_, rfl⟩
      rw [hy] at hS
      have hcb := fun dst hd => run_convert_bytes_arg (P := Try.prog) wr 30 5 Try.underlying30 Try.underlying5 (w.heap.size + 1) 0 s.size cap (CrcPlain.nums s.data.toList p y) (by rw [CrcPlain.nums_length]; exact hlen) (fun i hi => by rw [Nat.zero_add, CrcPlain.nums_get _ _ _ _ (by omega)]; exact hS.cell i (by omega)) dst hd
      have hcb9 := hcb 9 Try.underlying9
      clear hcb
      have hbel := hS.below
      have hne2 : (((CrcPlain.more 0 (CrcPlain.turn s.data.toList p y) : Nat) : Int) != ((CrcPlain.more 0 s.data.toList : Nat) : Int)) = true := by
        rw [bne_iff_ne]
        intro e
        have := CrcPlain.turn_apart s.data.toList p y (by omega) (by
          intro i hi
          rw [← hy]
          rcases (show i = 0 ∨ i = 1 ∨ i = 2 ∨ i = 3 by omega) with rfl | rfl | rfl | rfl <;> simpa) (by omega)
        rw [← hy] at this
        simp at this
        simp [this] at hne
      have hst : (strOfNums (CrcPlain.nums s.data.toList p y)).data.toList = CrcPlain.turn s.data.toList p y := strOfNums_data _
      have hsz : (strOfNums (CrcPlain.nums s.data.toList p y)).size ≤ maxLen := by rw [strOfNums_size, CrcPlain.nums_length, hlen]; unfold maxLen; omega
      have hsm : s.size ≤ maxLen := by unfold maxLen; omega
      obtain ⟨t, ht⟩ : ∃ t, strOfNums (CrcPlain.nums s.data.toList p y) = t := ⟨_, rfl⟩
      rw [ht] at hst hsz hcb9
      have HT := Lib.hid hst
      have HN := Lib.hid hne2
      clear hS hst hne2 ht hy
      go_wp2_with fail
      refine (sum_any t hsz _).mono ?_
      rintro e w1 ⟨rfl, hk1⟩
      rw [HT.out]
      go_wp2_with fail
      refine (sum_any s hsm _).mono ?_
      rintro e w2 ⟨rfl, hk2⟩
      have hne2 := HN.out
      go_wp2_with fail
      refine (checked_any _).mono ?_
      rintro e w3 ⟨rfl, hk3⟩
      go_wp2
      go_ret
      have l := Nat.le_refl w.heap.size
      exact ⟨rfl, below_trans l (below_trans l (below_trans l hbel hk1) hk2) hk3⟩

end Go.Proofs.Ytlfkafmbjkeabaa
