/-
  PROVED HERE: numbers of so many bits the other way round; the contracts of sums.turned, sums.mask and the document's flips. Conditions: as each theorem states.
-/
import Derived.Test.YtifnochpmlllgaaDoorPow
import Derived.Test.YtifnochpmlllgaaDoorBit
import Derived.BigQuiet
import Derived.Deep.QuietTactic
import Derived.StillTailTactics
namespace Go.Proofs.YtifnochpmlllgaaDoor.Sum
open Go.RowKit
theorem u32_and_nat (a b : Nat) (ha : a < 4294967296) (hb : b < 4294967296) : bits .and .u32 (a : Int) (b : Int) = ((a &&& b : Nat) : Int) := by
  show IntKind.u32.wrap ((BitVec.ofInt 32 (a : Int) &&& BitVec.ofInt 32 (b : Int)).toNat : Nat) = _
  have e1 : ((a : Int) % ((2 ^ 32 : Nat) : Int)).toNat = a := by omega
  have e2 : ((b : Int) % ((2 ^ 32 : Nat) : Int)).toNat = b := by omega
  rw [BitVec.toNat_and, BitVec.toNat_ofInt, BitVec.toNat_ofInt, e1, e2, IntKind.wrap_u32]
  have : a &&& b ≤ a := Nat.and_le_left
  omega
theorem u32_or_nat (a b : Nat) (ha : a < 4294967296) (hb : b < 4294967296) : bits .or .u32 (a : Int) (b : Int) = ((a ||| b : Nat) : Int) := by
  show IntKind.u32.wrap ((BitVec.ofInt 32 (a : Int) ||| BitVec.ofInt 32 (b : Int)).toNat : Nat) = _
  have e1 : ((a : Int) % ((2 ^ 32 : Nat) : Int)).toNat = a := by omega
  have e2 : ((b : Int) % ((2 ^ 32 : Nat) : Int)).toNat = b := by omega
  rw [BitVec.toNat_or, BitVec.toNat_ofInt, BitVec.toNat_ofInt, e1, e2, IntKind.wrap_u32]
  have : a ||| b < 2 ^ 32 := Nat.or_lt_two_pow ha hb
  omega
theorem u32_xor_nat (a b : Nat) (ha : a < 4294967296) (hb : b < 4294967296) : bits .xor .u32 (a : Int) (b : Int) = ((a ^^^ b : Nat) : Int) := by
  show IntKind.u32.wrap ((BitVec.ofInt 32 (a : Int) ^^^ BitVec.ofInt 32 (b : Int)).toNat : Nat) = _
  have e1 : ((a : Int) % ((2 ^ 32 : Nat) : Int)).toNat = a := by omega
  have e2 : ((b : Int) % ((2 ^ 32 : Nat) : Int)).toNat = b := by omega
  rw [BitVec.toNat_xor, BitVec.toNat_ofInt, BitVec.toNat_ofInt, e1, e2, IntKind.wrap_u32]
  have : a ^^^ b < 2 ^ 32 := Nat.xor_lt_two_pow ha hb
  omega
/-- The low k bits of n, the other way round. -/
def rv (n : Nat) : Nat → Nat
  | 0 => 0
  | k + 1 => rv n k * 2 + n / 2 ^ k % 2
theorem rv_lt (n : Nat) : ∀ k, rv n k < 2 ^ k
  | 0 => by simp [rv]
  | k + 1 => by
    have := rv_lt n k
    rw [rv, Nat.pow_succ]; omega
theorem rv_lt32 (n k : Nat) (h : k ≤ 32) : rv n k < 4294967296 := Nat.lt_of_lt_of_le (rv_lt n k) (Nat.le_trans (Nat.pow_le_pow_right (by decide) h) (by decide))
theorem rv_step (n k x o : Nat) (hk : k < 32) (hn : n < 4294967296) (hx : x = n / 2 ^ k) (ho : o = rv n k) : bits .or .u32 (IntKind.u32.wrap ((o : Int) * 2)) (bits .and .u32 (x : Int) 1) = ((rv n (k + 1) : Nat) : Int) := by
  have hl : o < 2147483648 := by
    rw [ho]
    exact Nat.lt_of_lt_of_le (rv_lt n k) (Nat.le_trans (Nat.pow_le_pow_right (by decide) (show k ≤ 31 by omega)) (by decide))
  have hxl : x < 4294967296 := by rw [hx]; exact Nat.lt_of_le_of_lt (Nat.div_le_self _ _) hn
  rw [show (1 : Int) = ((1 : Nat) : Int) from rfl, u32_and_nat x 1 hxl (by decide), Nat.and_one_is_mod, IntKind.wrap_u32, show ((o : Int) * 2 % 4294967296) = ((o * 2 : Nat) : Int) by omega, u32_or_nat _ _ (by omega) (by omega)]
  rw [nat_join 1 (o * 2) (x % 2) (by omega) (by omega), rv, hx, ho]
theorem half_next (n k x : Nat) (hx : x = n / 2 ^ k) : x / 2 = n / 2 ^ (k + 1) := by rw [hx, Nat.div_div_eq_div_mul, ← Nat.pow_succ]
set_option maxHeartbeats 1000000 in
theorem turned_any (n w : Nat) (hw : w ≤ 32) (hn : n < 4294967296) (W : World) : Calls Tryd.prog 96 #[.int .u32 n, .int .i64 w] W fun e w' => e = .returned (.int .u32 (rv n w : Nat)) ∧ W = w' := by
  go_enter Tryd.func96, Tryd.ntmps96
  go_wp2_with fail
  go_loopw [0, 5, 7] (fun a b c wr => ∃ k x o : Nat, k ≤ w ∧ c = .int .i64 k ∧ a = .int .u32 x ∧ b = .int .u32 o ∧ Hid (x = n / 2 ^ k) ∧ Hid (o = rv n k) ∧ wr = W) (fun _ _ c _ => w - (intOf c).toNat)
  case atStart => exact ⟨0, n, 0, Nat.zero_le _, rfl, rfl, rfl, Lib.hid (by simp), Lib.hid rfl, rfl⟩
  case round =>
    obtain ⟨k, x, o, hk, rfl, rfl, rfl, hx, ho, rfl⟩ := hrel
    by_cases hlt : k < w
    · have S := Lib.hid (rv_step n k x o (by omega) hn hx.out ho.out)
      have X := Lib.hid (half_next n k x hx.out)
      go_wp2_with fail
      go_roundw
      case rel => exact ⟨k + 1, x / 2, rv n (k + 1), by omega, by go_num, by go_num, by rw [← S.out, IntKind.wrap_u32], X, Lib.hid rfl, trivial⟩
      case measure => simp [intOf]; omega
    · obtain rfl : k = w := by omega
      go_wp2_with fail
      go_ret
      exact ⟨by rw [← ho.out]; rfl, rfl⟩
theorem flip_step (n k x o : Nat) (hx : x = n / 2 ^ k) (ho : o = rv n k) : (o : Int) * 2 + (x : Int) % 2 = ((rv n (k + 1) : Nat) : Int) := by
  rw [rv, ← hx, ← ho]
  omega
set_option maxHeartbeats 1000000 in
theorem flips_any (n w : Nat) (hw : w ≤ 32) (hn : n < 18446744073709551616) (W : World) : Calls Tryd.prog 90 #[.int .u64 n, .int .i64 w] W fun e w' => e = .returned (.int .u64 (rv n w : Nat)) ∧ W = w' := by
  go_enter Tryd.func90, Tryd.ntmps90
  go_wp2_with fail
  go_loopw [0, 1, 5] (fun a c b wr => ∃ k x o : Nat, k ≤ w ∧ c = .int .i64 ((w - k : Nat) : Int) ∧ a = .int .u64 x ∧ b = .int .u64 o ∧ Hid (x = n / 2 ^ k) ∧ Hid (o = rv n k) ∧ wr = W) (fun _ c _ _ => (intOf c).toNat)
  case atStart => exact ⟨0, n, 0, Nat.zero_le _, by simp, rfl, rfl, Lib.hid (by simp), Lib.hid rfl, rfl⟩
  case round =>
    obtain ⟨k, x, o, hk, rfl, rfl, rfl, hx, ho, rfl⟩ := hrel
    by_cases hlt : k < w
    · have S := Lib.hid (flip_step n k x o hx.out ho.out)
      have X := Lib.hid (half_next n k x hx.out)
      have hl := rv_lt32 n k (by omega)
      have hxl : x < 18446744073709551616 := by rw [hx.out]; exact Nat.lt_of_le_of_lt (Nat.div_le_self _ _) hn
      rw [← ho.out] at hl
      have r1 : (0 : Int) < ((w - k : Nat) : Int) := by omega
      go_wp2_with fail
      go_roundw
      case rel => exact ⟨k + 1, x / 2, rv n (k + 1), by omega, by go_num, by first | rfl | simp, by rw [S.out], X, Lib.hid rfl, trivial⟩
      case measure => simp [intOf]; omega
    · obtain rfl : k = w := by omega
      go_wp2_with fail
      go_ret
      exact ⟨by rw [← ho.out]; rfl, rfl⟩
end Go.Proofs.YtifnochpmlllgaaDoor.Sum
