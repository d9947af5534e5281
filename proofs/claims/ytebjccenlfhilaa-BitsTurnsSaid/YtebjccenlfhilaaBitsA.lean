/-
  PROVED HERE: contracts of the document's char, bitAt, BitsCount, BitsTurn, and of bits.Count, bits.Turn, over every text within the statement's bounds. Conditions: as each theorem states.
-/
import Derived.Test.YtebjccenlfhilaaRows
import Derived.Test.YtebjccenlfhilaaMem
namespace Go.Proofs.Ytebjccenlfhilaa.Bits
open Go.RowKit

/-- The byte at place k (0 where there is none). -/
def byteAt (s : ByteArray) (k : Nat) : Nat := (s.data[k]?.getD 0).toNat
theorem byteAt_lt (s : ByteArray) (k : Nat) : byteAt s k < 256 := UInt8.toNat_lt _
theorem byteAt_eq (s : ByteArray) (k : Nat) (h : k < s.size) : s[k].toNat = byteAt s k := by rw [byteAt, getD_eq s k h]

theorem char_any (n : Int) (h0 : 0 ≤ n) (w : World) :
    Calls Try.prog 30 #[.int .u64 n] w fun e w' => e = .returned (.string ⟨#[UInt8.ofNat (n.toNat % 256)]⟩) ∧ Below w.heap.size w w' := by
  have hconv : (convert 45 9 (.slice (some ⟨w.heap.size, 0, none⟩) 1 1)).run Try.prog (w.alloc (.cells #[.int .u8 (n % 256)] 5)) = .ok (.string ⟨#[UInt8.ofNat (n.toNat % 256)]⟩) (w.alloc (.cells #[.int .u8 (n % 256)] 5)) := by
    refine run_convert_bytes_back _ _ _ 5 ⟨w.heap.size, 0, none⟩ 1 [UInt8.ofNat (n.toNat % 256)] Try.underlying45 Try.underlying5 Try.underlying9 ?_
    intro j hj
    obtain rfl : j = 0 := by simpa using hj
    have e : ((UInt8.ofNat (n.toNat % 256)).toNat : Int) = n % 256 := by
      rw [UInt8.toNat_ofNat']; omega
    simp [e, Addr.add, World.cell?_alloc_mark]
    omega
  go_enter Try.func30, Try.ntmps30
  go_wp2
  go_ret
  exact ⟨rfl, (Below.refl _ _).alloc (Nat.le_refl _) _⟩

/-- bit i of a byte, its greatest first. -/
def bitB (c i : Nat) : Nat := c * 2 ^ i % 256
def bitL (c i : Nat) : Nat := c / 2 ^ i
theorem bitB_lt (c i : Nat) : bitB c i < 256 := Nat.mod_lt _ (by omega)
theorem bitL_lt (c i : Nat) (h : c < 256) : bitL c i < 256 := Nat.lt_of_le_of_lt (Nat.div_le_self _ _) h
theorem bitB_succ (c i : Nat) : ((bitB c (i + 1) : Nat) : Int) = (bitB c i : Nat) * 2 % 256 := by
  unfold bitB; rw [Nat.pow_succ, ← Nat.mul_assoc]; omega
theorem bitL_succ (c i : Nat) : ((bitL c (i + 1) : Nat) : Int) = (bitL c i : Nat) / 2 := by
  unfold bitL; rw [Nat.pow_succ, ← Nat.div_div_eq_div_mul]; omega

set_option maxHeartbeats 400000 in
theorem bitAt_big (s : ByteArray) (k : Int) (h0 : 0 ≤ k) (hk : k < 8 * s.size) (hs : s.size ≤ 1000) (w : World) :
    Calls Try.prog 29 #[.string s, .int .i64 k, .int .i64 1] w fun e w' => e = .returned (.int .u64 ((bitB (byteAt s (k.toNat / 8)) (k.toNat % 8) / 128 : Nat) : Int)) ∧ w = w' := by
  obtain ⟨k, rfl⟩ := Int.eq_ofNat_of_zero_le h0
  rw [Int.toNat_natCast]
  have hlt : k / 8 < s.size := by omega
  have hb := byteAt_eq s (k / 8) hlt
  have hb2 := byteAt_lt s (k / 8)
  generalize hc : byteAt s (k / 8) = c at *
  clear hc
  go_enter Try.func29, Try.ntmps29
  go_wp2
  go_loop [7, 8] (fun b i => ∃ j : Nat, j ≤ k % 8 ∧ i = .int .i64 j ∧ b = .int .u64 (bitB c j : Nat)) (fun _ i => k % 8 - (intOf i).toNat)
  case atStart => exact ⟨0, Nat.zero_le _, rfl, by simp [bitB]; omega⟩
  case round =>
    obtain ⟨j, hj, rfl, rfl⟩ := hrel
    have hbb := bitB_lt c j
    by_cases hlt : j < k % 8
    · have HB := Lib.hid (bitB_succ c j)
      go_wp2
      go_round
      case rel => exact ⟨j + 1, by omega, by go_num, by rw [HB.out]⟩
      case measure => simp [intOf]; omega
    · obtain rfl : j = k % 8 := by omega
      go_wp2
      go_ret
      exact ⟨ret_int (by simp), rfl⟩
set_option maxHeartbeats 400000 in
theorem bitAt_little (s : ByteArray) (k : Int) (h0 : 0 ≤ k) (hk : k < 8 * s.size) (hs : s.size ≤ 1000) (w : World) :
    Calls Try.prog 29 #[.string s, .int .i64 k, .int .i64 0] w fun e w' => e = .returned (.int .u64 ((bitL (byteAt s (k.toNat / 8)) (k.toNat % 8) % 2 : Nat) : Int)) ∧ w = w' := by
  obtain ⟨k, rfl⟩ := Int.eq_ofNat_of_zero_le h0
  rw [Int.toNat_natCast]
  have hlt : k / 8 < s.size := by omega
  have hb := byteAt_eq s (k / 8) hlt
  have hb2 := byteAt_lt s (k / 8)
  generalize hc : byteAt s (k / 8) = c at *
  clear hc
  go_enter Try.func29, Try.ntmps29
  go_wp2
  go_loop [7, 8] (fun b i => ∃ j : Nat, j ≤ k % 8 ∧ i = .int .i64 j ∧ b = .int .u64 (bitL c j : Nat)) (fun _ i => k % 8 - (intOf i).toNat)
  case atStart => exact ⟨0, Nat.zero_le _, rfl, by simp [bitL]⟩
  case round =>
    obtain ⟨j, hj, rfl, rfl⟩ := hrel
    have hbb := bitL_lt c j hb2
    by_cases hlt : j < k % 8
    · have HB := Lib.hid (bitL_succ c j)
      go_wp2
      go_round
      case rel => exact ⟨j + 1, by omega, by go_num, by rw [HB.out]⟩
      case measure => simp [intOf]; omega
    · obtain rfl : j = k % 8 := by omega
      go_wp2
      go_ret
      exact ⟨ret_int (by simp), rfl⟩

/-- How many of the first k bits are 1. -/
def cnt (s : ByteArray) : Nat → Nat
  | 0 => 0
  | k + 1 => cnt s k + bitB (byteAt s (k / 8)) (k % 8) / 128
theorem cnt_succ (s : ByteArray) (k : Nat) : ((cnt s (k + 1) : Nat) : Int) = (cnt s k : Nat) + ((bitB (byteAt s (k / 8)) (k % 8) : Nat) : Int) / 128 := by rw [cnt, Int.natCast_add]; rfl
theorem cnt_le (s : ByteArray) : ∀ k, cnt s k ≤ k
  | 0 => Nat.le_refl _
  | k + 1 => by have := cnt_le s k; have := bitB_lt (byteAt s (k / 8)) (k % 8); rw [cnt]; omega

set_option maxHeartbeats 400000 in
theorem docCount (s : ByteArray) (hs : s.size ≤ 1000) (w : World) :
    Calls Try.prog 18 #[.string s] w fun e w' => e = .returned (.int .i64 (cnt s (8 * s.size) : Nat)) ∧ w = w' := by
  go_enter Try.func18, Try.ntmps18
  go_wp2
  go_loop [3, 4] (fun n k => ∃ j : Nat, j ≤ 8 * s.size ∧ k = .int .i64 j ∧ n = .int .i64 (cnt s j : Nat)) (fun _ k => 8 * s.size - (intOf k).toNat)
  case atStart => exact ⟨0, Nat.zero_le _, rfl, rfl⟩
  case round =>
    obtain ⟨j, hj, rfl, rfl⟩ := hrel
    have hc := cnt_le s j
    by_cases hlt : j < 8 * s.size
    · have HC := Lib.hid (cnt_succ s j)
      have hbb := bitB_lt (byteAt s (j / 8)) (j % 8)
      go_wp2_with (go_at_call 29; refine (bitAt_big s _ (by omega) (by omega) hs _).mono ?_; rintro e w' ⟨rfl, rfl⟩)
      go_round
      case rel => exact ⟨j + 1, by omega, by go_num, by rw [HC.out]⟩
      case measure => simp [intOf]; omega
    · obtain rfl : j = 8 * s.size := by omega
      go_wp2
      go_ret
      exact ⟨rfl, rfl⟩

/-! ### the program's count -/
def pop (c : Nat) : Nat := c % 2 + c / 2 % 2 + c / 4 % 2 + c / 8 % 2 + c / 16 % 2 + c / 32 % 2 + c / 64 % 2 + c / 128 % 2
def dn (c : Nat) : Nat := c &&& (c - 1)
theorem dn_all : ∀ c : Fin 256, 0 < c.val → dn c.val < c.val ∧ pop (dn c.val) + 1 = pop c.val := by decide +kernel
theorem dn_is (c : Nat) (h0 : 0 < c) (h : c < 256) : bits .and .u8 (c : Int) ((c : Int) - 1) = ((dn c : Nat) : Int) := by
  have := u8_and_nat c (c - 1) h (by omega)
  rw [show ((c : Int) - 1) = ((c - 1 : Nat) : Int) from by omega]
  exact this
def tot (s : ByteArray) : Nat → Nat
  | 0 => 0
  | k + 1 => tot s k + pop (byteAt s k)
theorem pop_le (c : Nat) : pop c ≤ 8 := by unfold pop; omega
theorem tot_le (s : ByteArray) : ∀ k, tot s k ≤ 8 * k
  | 0 => Nat.le_refl _
  | k + 1 => by have := tot_le s k; have := pop_le (byteAt s k); rw [tot]; omega

set_option maxHeartbeats 400000 in
theorem count_any (s : ByteArray) (hs : s.size ≤ 1000) (w : World) :
    Calls Try.prog 17 #[.string s] w fun e w' => e = .returned (.int .i64 (tot s s.size : Nat)) ∧ w = w' := by
  go_enter Try.func17, Try.ntmps17
  go_wp2
  go_loop [3, 8] (fun n i => ∃ k : Nat, k ≤ s.size ∧ i = .int .i64 k ∧ n = .int .i64 (tot s k : Nat)) (fun _ i => s.size - (intOf i).toNat)
  case atStart => exact ⟨0, Nat.zero_le _, rfl, rfl⟩
  case round =>
    obtain ⟨k, hk, rfl, rfl⟩ := hrel
    by_cases hlt : k < s.size
    · have hb := byteAt_eq s k hlt
      have hb2 := byteAt_lt s k
      have ht := tot_le s (k + 1)
      have hT : tot s (k + 1) = tot s k + pop (byteAt s k) := rfl
      have HT := Lib.hid hT
      clear hT
      go_wp2
      go_loop [3, 5] (fun n b => ∃ c m : Nat, c < 256 ∧ m + pop c = tot s (k + 1) ∧ b = .int .u8 c ∧ n = .int .i64 m) (fun _ b => (intOf b).toNat)
      case atStart => exact ⟨_, tot s k, hb2, HT.out.symm, rfl, rfl⟩
      case round =>
        obtain ⟨c, m, hc, hm, rfl, rfl⟩ := hrel
        by_cases h0 : 0 < c
        · have HD := Lib.hid (dn_is c h0 hc)
          have HA := Lib.hid (dn_all ⟨c, hc⟩ h0)
          have hm' : m ≤ tot s (k + 1) := by omega
          have HM := Lib.hid hm
          clear hm
          go_wp2
          go_round
          case rel => exact ⟨dn c, m + 1, by have := HA.out; simp at this; omega, by have := HA.out; have := HM.out; simp at *; omega, by rw [HD.out], by go_num⟩
          case measure => have := HA.out; simp [intOf, HD.out] at *; omega
        · obtain rfl : c = 0 := by omega
          have hm2 : m = tot s (k + 1) := by have : pop 0 = 0 := rfl; omega
          clear hm
          subst hm2
          go_wp2
          go_round
          case rel => exact ⟨k + 1, by omega, by go_num, rfl⟩
          case measure => simp [intOf]; omega
    · obtain rfl : k = s.size := by omega
      go_wp2
      go_ret
      exact ⟨rfl, rfl⟩
theorem pop_bits : ∀ c : Fin 256, bitB c.val 0 / 128 + bitB c.val 1 / 128 + bitB c.val 2 / 128 + bitB c.val 3 / 128 + bitB c.val 4 / 128 + bitB c.val 5 / 128 + bitB c.val 6 / 128 + bitB c.val 7 / 128 = pop c.val := by decide +kernel
theorem cnt_tot (s : ByteArray) : ∀ k, cnt s (8 * k) = tot s k
  | 0 => rfl
  | k + 1 => by
    have h := pop_bits ⟨byteAt s k, byteAt_lt s k⟩
    have e : 8 * (k + 1) = 8 * k + 1 + 1 + 1 + 1 + 1 + 1 + 1 + 1 := by omega
    rw [e]
    simp only [cnt, cnt_tot s k, tot]
    have d : ∀ j, j < 8 → (8 * k + j) / 8 = k ∧ (8 * k + j) % 8 = j := fun j hj => by omega
    have d0 := d 0 (by omega); have d1 := d 1 (by omega); have d2 := d 2 (by omega); have d3 := d 3 (by omega)
    have d4 := d 4 (by omega); have d5 := d 5 (by omega); have d6 := d 6 (by omega); have d7 := d 7 (by omega)
    have e0 : 8 * k / 8 = k := by omega
    have e1 : 8 * k % 8 = 0 := by omega
    simp only [Nat.add_assoc, Nat.reduceAdd, e0, e1, d0, d1, d2, d3, d4, d5, d6, d7] at *
    omega
end Go.Proofs.Ytebjccenlfhilaa.Bits
