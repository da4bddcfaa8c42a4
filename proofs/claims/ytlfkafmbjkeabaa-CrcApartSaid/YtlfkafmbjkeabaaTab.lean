/-
  The walks of the program's side (crc): the table, More, Sum.
-/
import Derived.Test.YtlfkafmbjkeabaaRef
import Derived.Deep.WholeRow
import Derived.Deep.RegionWith
import Derived.Laws.CopyOwn
namespace Go.Proofs.Ytlfkafmbjkeabaa
open Go.RowKit

/-- The row of cells, behind i rounds. -/
def rowOf (i : Nat) : Array Value := ((List.range 256).map fun j => Value.int .u32 (if j < i then (CrcPlain.many 8 j : Nat) else 0)).toArray

theorem zero33 (w : World) : (zeroValue 33).run Try.prog w = .ok (.agg (rowOf 0)) w := by kernel_rfl

theorem rowOf_size (i : Nat) : (rowOf i).size = 256 := by simp [rowOf]

theorem rowOf_cell (i : Nat) : (rowOf i).all (·.oneCell') = true := by
  simp [rowOf, Value.oneCell']

theorem rowOf_get (i j : Nat) (h : j < 256) : (rowOf i)[j]? = some (Value.int .u32 (if j < i then (CrcPlain.many 8 j : Nat) else 0)) := by
  simp [rowOf, h]

theorem rowOf_set (i : Nat) (h : i < 256) : (rowOf i).setIfInBounds i (.int .u32 (CrcPlain.many 8 i : Nat)) = rowOf (i + 1) := by
  apply Array.ext_getElem?
  intro j
  by_cases hj : j < 256
  · rw [rowOf_get _ _ hj, Array.getElem?_setIfInBounds]
    by_cases e : i = j
    · subst e; rw [if_pos rfl, if_pos (by rw [rowOf_size]; exact h), if_pos (by omega)]
    · rw [if_neg e, rowOf_get _ _ hj]
      by_cases hl : j < i
      · rw [if_pos hl, if_pos (by omega)]
      · rw [if_neg hl, if_neg (by omega)]
  · rw [Array.getElem?_eq_none (by simp [rowOf_size]; omega), Array.getElem?_eq_none (by simp [rowOf_size]; omega)]

theorem one_bits (v : Nat) (hv : v < 4294967296) : bits .xor .u32 ((v : Int) / 2) (3988292384 * bits .and .u32 (v : Int) 1 % 4294967296) = ((CrcPlain.one v : Nat) : Int) := by
  have h1 : bits .and .u32 (v : Int) 1 = ((v % 2 : Nat) : Int) := by
    have := u32_and_nat v 1 hv (by decide)
    rw [nat_mask1] at this
    exact this
  rw [h1]
  rcases Nat.mod_two_eq_zero_or_one v with h | h
  · rw [h, CrcPlain.one_even h]
    have := u32_xor_nat (v / 2) 0 (by omega) (by decide)
    rw [Nat.xor_zero] at this
    exact this
  · rw [h, CrcPlain.one_odd h]
    exact u32_xor_nat (v / 2) 3988292384 (by omega) (by decide)

attribute [irreducible] rowOf

set_option maxHeartbeats 1000000 in
set_option maxRecDepth 100000 in
theorem table_steps (w : World) :
    Calls Try.prog 14 #[] w fun e w' => e = .returned (.agg (rowOf 256)) ∧ Below w.heap.size w w' := by
  have hz := zero33
  go_enter Try.func14, Try.ntmps14
  go_wp2
  go_loopw [3] (fun i wr => ∃ k : Nat, k ≤ 256 ∧ i = .int .i64 k ∧ wr = w.alloc (.cells (rowOf k) 33)) (fun i _ => 256 - (intOf i).toNat)
  case atStart => exact ⟨0, by omega, rfl, rfl⟩
  case round =>
    obtain ⟨k, hk, rfl, rfl⟩ := hrel
    by_cases hlt : k < 256
    · have hrow := rowOf_get k k hlt
      go_wp2
      go_loop [2, 8] (fun c j => ∃ r : Nat, r ≤ 8 ∧ j = .int .i64 r ∧ c = .int .u32 (CrcPlain.many r k : Nat)) (fun _ j => 8 - (intOf j).toNat)
      case atStart => exact ⟨0, by omega, rfl, rfl⟩
      case round =>
        obtain ⟨r, hr, rfl, rfl⟩ := hrel
        have hv := CrcPlain.many_lt r (c := k) (by omega)
        have hone : CrcPlain.many (r + 1) k = CrcPlain.one (CrcPlain.many r k) := rfl
        obtain ⟨v, hvv⟩ : ∃ v, CrcPlain.many r k = v := ⟨_, rfl⟩
        rw [hvv] at hv hone ⊢
        have HE := Lib.hid hvv
        have HV := Lib.hid hone
        clear hvv hone
        by_cases h8 : r < 8
        · go_wp2
          go_round
          case rel => exact ⟨r + 1, by omega, by go_num, by rw [HV.out]; rw [one_bits v hv]⟩
          case measure => simp [intOf]; omega
        · go_wp2
          obtain rfl : r = 8 := by omega
          go_roundw
          case rel => exact ⟨k + 1, by omega, by go_num, by rw [← HE.out, rowOf_set k hlt]⟩
          case measure => simp [intOf]; omega
    · obtain rfl : k = 256 := by omega
      have hld := run_loadAt_new (P := Try.prog) w 33 (rowOf 256) 256 22 Try.underlying33 (by rw [rowOf_size]; kernel_rfl)
      have hst := run_storeAt_new (P := Try.prog) w 33 (rowOf 256) (rowOf 256) (by rw [rowOf_size]; kernel_rfl) rfl (rowOf_cell 256)
      go_wp2_with (first | (refine wpList_load_row rfl 33 _ rfl w.heap.size rfl 33 (rowOf 256) (0, 0) _ (heap_alloc_new _ _) Try.underlying33 rfl (by rw [rowOf_size]; kernel_rfl) ?_) | (refine wpList_store_row rfl 33 _ _ rfl w.heap.size (rowOf 256) rfl rfl 33 (rowOf 256) (heap_alloc_new _ _) (by rw [rowOf_size]; kernel_rfl) rfl (rowOf_cell 256) ?_; rw [World.setRow_alloc_new]))
      exact bodyPost_ret (v := .agg (rowOf 256)) (results_cell_row rfl _ _ _ 33 (rowOf 256) (0, 0) _ rfl (heap_alloc_new _ _) Try.underlying33 rfl (by rw [rowOf_size]; kernel_rfl)) rfl ⟨rfl, (Below.refl _ _).alloc (Nat.le_refl _) _⟩

set_option maxHeartbeats 1000000 in
set_option maxRecDepth 100000 in
theorem table_any (w : World) :
    Calls Try.prog 12 #[] w fun e w' => e = .returned (.agg (rowOf 256)) ∧ Below w.heap.size w w' := by
  have hz := zero33
  go_enter Try.func12, Try.ntmps12
  go_wp2_with fail
  refine (table_steps _).mono ?_
  rintro e w' ⟨rfl, hb⟩
  have hg : w'.heap[w.heap.size]? = some (.cells (rowOf 0) 33) := by rw [hb.block _ (by simp)]; exact heap_alloc_new _ _
  have hb' : Below w.heap.size w w' := ((Below.refl _ _).alloc (Nat.le_refl _) _).trans (hb.mono (by simp))
  have hgw := setRow_heap w' w.heap.size (rowOf 0) (rowOf 256) 33 (0, 0) hg
  have hbw := below_setRow hb' (Nat.le_refl _) (rowOf 256)
  have hsz : (rowOf 0).size = (rowOf 256).size := by rw [rowOf_size, rowOf_size]
  clear hb hb'
  go_wp2_with (refine wpList_store_row rfl 33 _ _ rfl w.heap.size (rowOf 256) rfl rfl 33 (rowOf 0) hg (by rw [rowOf_size]; kernel_rfl) hsz (rowOf_cell 256) ?_)
  exact bodyPost_ret (v := .agg (rowOf 256)) (results_cell_row rfl _ _ _ 33 (rowOf 256) (0, 0) _ rfl hgw Try.underlying33 rfl (by rw [rowOf_size]; kernel_rfl)) rfl ⟨rfl, hbw⟩


theorem index_row (w : World) (j : Nat) (h : j < 256) : (Instr.index 33 (.agg (rowOf 256)) (.int .u8 (j : Int))).run Try.prog w = .ok (.int .u32 (CrcPlain.many 8 j : Nat)) w := by
  have hg := rowOf_get 256 j h
  rw [if_pos h] at hg
  have hi : (Try.prog.info? 22).map (·.size) = some 1 := by kernel_rfl
  cases hq : Try.prog.info? 22 with
  | none => simp [hq] at hi
  | some i =>
    have hs : i.size = 1 := by simpa [hq] using hi
    simp [Instr.index, asIntOf, Sem.run_bind, run_underlying Try.underlying33, run_underlying Try.underlying22, part, isAgg, sizeOf, typeInfo, hq, hs, h, hg]

theorem xor_top (n : Nat) (h : n < 4294967296) : bits .xor .u32 IntKind.u32.max (n : Int) = ((CrcPlain.top - n : Nat) : Int) := by
  have h1 := u32_xor_nat 4294967295 n (by decide) h
  have h2 : 4294967295 ^^^ n = CrcPlain.top - n := by
    apply Nat.eq_of_testBit_eq
    intro i
    have e : CrcPlain.top - n = 2 ^ 32 - (n + 1) := by unfold CrcPlain.top; omega
    rw [e, Nat.testBit_two_pow_sub_succ (by omega), Nat.testBit_xor, show (4294967295 : Nat) = 2 ^ 32 - 1 from rfl, Nat.testBit_two_pow_sub_one]
    by_cases hi : i < 32
    · simp [hi]
    · have : n.testBit i = false := Nat.testBit_lt_two_pow (Nat.lt_of_lt_of_le h (show 2 ^ 32 ≤ 2 ^ i from Nat.pow_le_pow_right (by omega) (by omega)))
      simp [hi, this]
  rw [h2] at h1
  exact h1

set_option maxHeartbeats 1000000 in
set_option maxRecDepth 100000 in
theorem more_any (n : Nat) (s : ByteArray) (hn : n < 4294967296) (hs : s.size ≤ maxLen) (w : World) :
    Calls Try.prog 9 #[.int .u32 (n : Int), .string s] w fun e w' => e = .returned (.int .u32 (CrcPlain.more n s.data.toList : Nat)) ∧ Below w.heap.size w w' := by
  unfold maxLen at hs
  have htop := xor_top n hn
  go_enter Try.func9, Try.ntmps9
  go_wp2
  clear htop
  go_loopw [0, 10] (fun c i wr => ∃ k : Nat, k ≤ s.size ∧ i = .int .i64 k ∧ c = .int .u32 (CrcPlain.text (CrcPlain.top - n) (s.data.toList.take k) : Nat) ∧ Below w.heap.size w wr) (fun _ i _ => s.size - (intOf i).toNat)
  case atStart => exact ⟨0, Nat.zero_le _, rfl, rfl, Below.refl _ _⟩
  case round =>
    obtain ⟨k, hk, rfl, rfl, hb⟩ := hrel
    have hT := CrcPlain.text_lt (c := CrcPlain.top - n) (by unfold CrcPlain.top; omega) (s.data.toList.take k)
    by_cases hlt : k < s.size
    · have hsn := text_snoc (CrcPlain.top - n) s k hlt
      obtain ⟨N, hN⟩ : ∃ N, CrcPlain.text (CrcPlain.top - n) (s.data.toList.take k) = N := ⟨_, rfl⟩
      rw [hN] at hT hsn
      rw [hN]
      have hc := s[k].toNat_lt
      obtain ⟨c, hcc⟩ : ∃ c, s[k].toNat = c := ⟨_, rfl⟩
      rw [hcc] at hc hsn
      have HS := Lib.hid hsn
      clear hsn hN
      have hx8 : bits .xor .u8 (IntKind.u8.wrap (N : Int)) (c : Int) = ((N % 256 ^^^ c : Nat) : Int) := by rw [IntKind.wrap_u8']; exact u8_xor_nat (N % 256) c (by omega) hc
      obtain ⟨j, hj⟩ : ∃ j, N % 256 ^^^ c = j := ⟨_, rfl⟩
      have hjl : j < 256 := by rw [← hj]; exact Nat.xor_lt_two_pow (n := 8) (by omega) hc
      rw [hj] at hx8
      have hidx := fun w => index_row w j hjl
      have hm := CrcPlain.many_lt 8 (c := j) (by omega)
      have hbt := CrcPlain.byte_table N c
      rw [hj] at hbt
      obtain ⟨M, hM⟩ : ∃ M, CrcPlain.many 8 j = M := ⟨_, rfl⟩
      rw [hM] at hm hidx hbt
      have hfin := u32_xor_nat (N / 256) M (by omega) hm
      have HB := Lib.hid hbt
      clear hbt hj hM
      go_wp2
      go_region_with (go_at_call 12; refine (table_any _).mono ?_; rintro e w' ⟨rfl, hbb⟩)
      all_goals
        go_wp2
        go_roundw
        case rel => exact ⟨k + 1, by omega, by go_num, by rw [HS.out, HB.out]; rw [← hfin]; rfl, (hb.drew).trans (hbb.mono hb.size)⟩
        case measure => simp [intOf]; omega
    · obtain rfl : k = s.size := by omega
      have htx := xor_top _ hT
      go_wp2
      go_ret
      exact ⟨ret_int (by rw [List.take_of_length_le (by simp)]; rfl), hb⟩
end Go.Proofs.Ytlfkafmbjkeabaa
