/-
  PROVED HERE: what a written number is, as one function, and the contract of digits.Number. Conditions: as each theorem states.
-/
import Derived.Test.YtpnjlmpamincoaaDoorParB
import Derived.Deep.DeepCutAuto
namespace Go.Proofs.YtpnjlmpamincoaaDoor.Dig
open Go.RowKit

def nneg (s : ByteArray) : Bool := decide (0 < s.size ∧ byteAt s 0 = 45)
def nt (s : ByteArray) : ByteArray := if nneg s then s.extract 1 s.size else s
def nb (t : ByteArray) : Nat := if 2 ≤ t.size ∧ byteAt t 0 = 48 then (if byteAt t 1 = 120 then 16 else if byteAt t 1 = 98 then 2 else 10) else 10
def nu (t : ByteArray) : ByteArray := if 2 ≤ t.size ∧ byteAt t 0 = 48 ∧ (byteAt t 1 = 120 ∨ byteAt t 1 = 98) then t.extract 2 t.size else t
def nv (neg : Bool) (v : Nat) (e : Int) : Int := if e ≠ 0 then 0 else if neg then (if v ≤ 9223372036854775808 then -(v : Int) else 0) else if 9223372036854775808 ≤ v then 0 else v
def ne (neg : Bool) (v : Nat) (e : Int) : Int := if e ≠ 0 then e else if neg then (if v ≤ 9223372036854775808 then 0 else 2) else if 9223372036854775808 ≤ v then 2 else 0
theorem pe_cases (s : ByteArray) (b : Nat) : pe s b = 0 ∨ pe s b = 2 ∨ pe s b = 3 := by
  unfold pe
  split
  · exact .inr (.inr rfl)
  · split
    · exact .inr (.inl rfl)
    · exact .inl rfl
theorem pv_lt (s : ByteArray) (b : Nat) : pv s b < 18446744073709551616 := by
  unfold pv
  split
  · decide
  · exact pn_lt _ _ _
theorem nv_low (v : Nat) (h : v < 9223372036854775808) : Ending.returned (.tuple #[.int .i64 (wrap64 (v : Int)), .nilIface]) = Ending.returned (.tuple #[.int .i64 (nv false v 0), ev (ne false v 0)]) := by
  have h1 : ¬ 9223372036854775808 ≤ v := by omega
  rw [IntWalk.wrap64_in _ (by omega)]
  simp [nv, ne, ev, h1]
theorem nv_high (v : Nat) (h1 : 9223372036854775808 ≤ v) : Ending.returned (.tuple #[.int .i64 0, .iface 24 (.int .i64 2)]) = Ending.returned (.tuple #[.int .i64 (nv false v 0), ev (ne false v 0)]) := by
  simp [nv, ne, ev, h1]
theorem neg_back (v : Nat) (h : v ≤ 9223372036854775808) : wrap64 (IntKind.u64.wrap (-(v : Int))) = -(v : Int) := by
  have e : IntKind.u64.wrap (-(v : Int)) = (-(v : Int)) % 18446744073709551616 := by simp [IntKind.wrap, IntKind.bits, IntKind.signed]
  rw [e]
  unfold wrap64
  omega
theorem nv_neg (v : Nat) (h : v ≤ 9223372036854775808) : Ending.returned (.tuple #[.int .i64 (wrap64 (IntKind.u64.wrap (-(v : Int)))), .nilIface]) = Ending.returned (.tuple #[.int .i64 (nv true v 0), ev (ne true v 0)]) := by
  rw [neg_back v h]
  simp [nv, ne, ev, h]
theorem nv_high_neg (v : Nat) (h1 : 9223372036854775808 < v) : Ending.returned (.tuple #[.int .i64 0, .iface 24 (.int .i64 2)]) = Ending.returned (.tuple #[.int .i64 (nv true v 0), ev (ne true v 0)]) := by
  have h2 : ¬ v ≤ 9223372036854775808 := by omega
  simp [nv, ne, ev, h2]
/-- The five forms of what stands behind the sign. -/
theorem kinds (t : ByteArray) :
    (t.size ≤ 1 ∧ nb t = 10 ∧ nu t = t) ∨ (2 ≤ t.size ∧ byteAt t 0 ≠ 48 ∧ nb t = 10 ∧ nu t = t) ∨ (2 ≤ t.size ∧ byteAt t 0 = 48 ∧ byteAt t 1 = 120 ∧ nb t = 16 ∧ nu t = t.extract 2 t.size) ∨
    (2 ≤ t.size ∧ byteAt t 0 = 48 ∧ byteAt t 1 = 98 ∧ nb t = 2 ∧ nu t = t.extract 2 t.size) ∨ (2 ≤ t.size ∧ byteAt t 0 = 48 ∧ byteAt t 1 ≠ 120 ∧ byteAt t 1 ≠ 98 ∧ nb t = 10 ∧ nu t = t) := by
  by_cases h1 : 2 ≤ t.size
  · by_cases h2 : byteAt t 0 = 48
    · by_cases h3 : byteAt t 1 = 120
      · exact .inr (.inr (.inl ⟨h1, h2, h3, by simp [nb, h1, h2, h3], by simp [nu, h1, h2, h3]⟩))
      · by_cases h4 : byteAt t 1 = 98
        · exact .inr (.inr (.inr (.inl ⟨h1, h2, h4, by simp [nb, h1, h2, h4], by simp [nu, h1, h2, h4]⟩)))
        · exact .inr (.inr (.inr (.inr ⟨h1, h2, h3, h4, by simp [nb, h1, h2, h3, h4], by simp [nu, h3, h4]⟩)))
    · exact .inr (.inl ⟨h1, h2, by simp [nb, h2], by simp [nu, h2]⟩)
  · exact .inl ⟨by omega, by simp [nb, h1], by simp [nu, h1]⟩
theorem str_none (s : ByteArray) (h : s.size = 0) : s.toList.isEmpty = true := by
  rw [ByteArray.toList_eq]
  have e : s.data.toList.length = s.size := rfl
  rw [List.isEmpty_iff]
  exact List.eq_nil_of_length_eq_zero (by omega)
theorem byte_is (s : ByteArray) (k : Nat) (h : k < s.size) (c : Nat) (hc : byteAt s k = c) : ((s[k].toNat : Int) == (c : Int)) = true := by rw [byteAt_eq s k h, hc]; exact beq_self_eq_true _
theorem byte_isnt (s : ByteArray) (k : Nat) (h : k < s.size) (c : Nat) (hc : byteAt s k ≠ c) : ((s[k].toNat : Int) == (c : Int)) = false := by rw [byteAt_eq s k h, beq_eq_false_iff_ne]; omega

end Go.Proofs.YtpnjlmpamincoaaDoor.Dig
