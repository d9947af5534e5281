/-
  PROVED HERE: what number digits are, as one function, and the contracts of digits.Parse and of the document's DigitsParse. Conditions: as each theorem states.
-/
import Derived.Test.YtpnjlmpamincoaaDoorDigA
import Derived.Test.YtpnjlmpamincoaaDoorErrB
import Derived.Test.YtpnjlmpamincoaaDoorRef
import Derived.Test.YtpnjlmpamincoaaDoorOwn
namespace Go.Proofs.YtpnjlmpamincoaaDoor.Dig
open Go.RowKit

/-- An error's value: nil for none. -/
def ev (n : Int) : Value := if n = 0 then .nilIface else .iface 24 (.int .i64 n)
theorem ev_is (w : World) (n : Int) : Err.ErrIs w (ev n) n (-1) := by
  unfold ev
  by_cases h : n = 0
  · rw [if_pos h]; exact .inl ⟨rfl, h, rfl⟩
  · rw [if_neg h]; exact .inr (.inl ⟨rfl, rfl⟩)
/-- Digit k of a text. -/
def dd (s : ByteArray) (k : Nat) : Int := dig (byteAt s k)
theorem dig_bounds' (s : ByteArray) (k : Nat) : -1 ≤ dd s k ∧ dd s k ≤ 15 := by unfold dd dig; omega
/-- The number, modulo 2^64, and whether it is above, of the first k digits. -/
def pn (s : ByteArray) (b : Nat) : Nat → Nat
  | 0 => 0
  | k + 1 => (pn s b k * b + (dd s k).toNat) % 18446744073709551616
def po (s : ByteArray) (b : Nat) : Nat → Bool
  | 0 => false
  | k + 1 => po s b k || decide (18446744073709551616 ≤ pn s b k * b + (dd s k).toNat)
theorem pn_lt (s : ByteArray) (b k : Nat) : pn s b k < 18446744073709551616 := by
  cases k with
  | zero => show (0 : Nat) < 18446744073709551616; decide
  | succ k => exact Nat.mod_lt _ (by decide)
/-- Some byte is no digit of the base. -/
def badB (s : ByteArray) (b : Nat) : Bool := (List.range s.size).any fun k => decide (dd s k < 0 ∨ (b : Int) ≤ dd s k)
theorem badB_yes (s : ByteArray) (b k : Nat) (hk : k < s.size) (h : dd s k < 0 ∨ (b : Int) ≤ dd s k) : badB s b = true := by
  unfold badB
  rw [List.any_eq_true]
  exact ⟨k, List.mem_range.2 hk, decide_eq_true h⟩
theorem badB_no (s : ByteArray) (b : Nat) (h : ∀ k, k < s.size → ¬ (dd s k < 0 ∨ (b : Int) ≤ dd s k)) : badB s b = false := by
  unfold badB
  rw [List.any_eq_false]
  intro k hk
  rw [decide_eq_true_iff]
  exact h k (List.mem_range.1 hk)
/-- The answer: the number, and the error's number. -/
def pv (s : ByteArray) (b : Nat) : Nat := if s.size = 0 ∨ badB s b = true ∨ po s b s.size = true then 0 else pn s b s.size
def pe (s : ByteArray) (b : Nat) : Int := if s.size = 0 ∨ badB s b = true then 3 else if po s b s.size = true then 2 else 0
theorem over_iff (n b d : Nat) (hb : 2 ≤ b) (hd : d < b) (hb2 : b ≤ 16) : (18446744073709551615 - d) / b < n ↔ 18446744073709551616 ≤ n * b + d := by
  rw [Nat.div_lt_iff_lt_mul (by omega)]
  omega

theorem wrap_mad (n b d : Nat) : Value.int .u64 (IntKind.u64.wrap (IntKind.u64.wrap ((n : Int) * (b : Int)) + (d : Int))) = .int .u64 (((n * b + d) % 18446744073709551616 : Nat) : Int) := by
  congr 1
  rw [← Int.natCast_mul]
  generalize n * b = m
  have e : ∀ x : Int, IntKind.u64.wrap x = x % 18446744073709551616 := fun x => by simp [IntKind.wrap, IntKind.bits, IntKind.signed]
  rw [e, e]
  omega
end Go.Proofs.YtpnjlmpamincoaaDoor.Dig
