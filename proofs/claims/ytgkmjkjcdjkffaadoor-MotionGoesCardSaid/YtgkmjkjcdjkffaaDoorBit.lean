/-
  PROVED HERE: bit operations on numbers of 64 bits with a sign, where neither is below 0, over any program. Conditions: as each theorem states.
-/
import Derived.Test.YtgkmjkjcdjkffaaDoorMem
namespace Go.Proofs.YtgkmjkjcdjkffaaDoor
open Go.RowKit

theorem i64_and_nat (a b : Nat) (ha : a < 9223372036854775808) (hb : b < 9223372036854775808) : bits .and .i64 (a : Int) (b : Int) = ((a &&& b : Nat) : Int) := by
  show IntKind.i64.wrap ((BitVec.ofInt 64 (a : Int) &&& BitVec.ofInt 64 (b : Int)).toNat : Nat) = _
  have e1 : ((a : Int) % ((2 ^ 64 : Nat) : Int)).toNat = a := by omega
  have e2 : ((b : Int) % ((2 ^ 64 : Nat) : Int)).toNat = b := by omega
  rw [BitVec.toNat_and, BitVec.toNat_ofInt, BitVec.toNat_ofInt, e1, e2, IntKind.wrap_i64]
  have : a &&& b ≤ a := Nat.and_le_left
  omega
theorem i64_or_nat (a b : Nat) (ha : a < 9223372036854775808) (hb : b < 9223372036854775808) : bits .or .i64 (a : Int) (b : Int) = ((a ||| b : Nat) : Int) := by
  show IntKind.i64.wrap ((BitVec.ofInt 64 (a : Int) ||| BitVec.ofInt 64 (b : Int)).toNat : Nat) = _
  have e1 : ((a : Int) % ((2 ^ 64 : Nat) : Int)).toNat = a := by omega
  have e2 : ((b : Int) % ((2 ^ 64 : Nat) : Int)).toNat = b := by omega
  rw [BitVec.toNat_or, BitVec.toNat_ofInt, BitVec.toNat_ofInt, e1, e2, IntKind.wrap_i64]
  have : a ||| b < 2 ^ 63 := Nat.or_lt_two_pow ha hb
  omega
theorem i64_mask (a k : Nat) (ha : a < 9223372036854775808) (hk : 2 ^ k - 1 < 9223372036854775808) : bits .and .i64 (a : Int) ((2 ^ k - 1 : Nat) : Int) = ((a % 2 ^ k : Nat) : Int) := by
  rw [i64_and_nat a _ ha hk, Nat.and_two_pow_sub_one_eq_mod]
theorem i64_join (k x y : Nat) (hx : x % 2 ^ k = 0) (hy : y < 2 ^ k) (hx2 : x < 9223372036854775808) (hy2 : y < 9223372036854775808) : bits .or .i64 (x : Int) (y : Int) = ((x + y : Nat) : Int) := by
  rw [i64_or_nat x y hx2 hy2, nat_join k x y hx hy]
end Go.Proofs.YtgkmjkjcdjkffaaDoor
