/-
  PROVED HERE: eight shifts behind a byte are eight steps by a bit each, over any program. Conditions: as each theorem states.
-/
import Derived.Test.YtifnochpmlllgaaDoorSumF
namespace Go.Proofs.YtifnochpmlllgaaDoor.Sum
open Go.RowKit
/-- The register behind one bit. -/
def bst (w P r : Nat) (b : Bool) : Nat := (r * 2 % 2 ^ w) ^^^ (if ((r / 2 ^ (w - 1) % 2 == 1) != b) then P else 0)
theorem xor_two (a b : Nat) : (a ^^^ b) * 2 = (a * 2) ^^^ (b * 2) := by
  rw [← Nat.pow_one 2, ← Nat.shiftLeft_eq, ← Nat.shiftLeft_eq, ← Nat.shiftLeft_eq, Nat.shiftLeft_xor_distrib]
theorem top_bit (w r : Nat) : (r / 2 ^ (w - 1) % 2 == 1) = r.testBit (w - 1) := by
  rw [Nat.testBit_eq_decide_div_mod_eq]
  rcases (show r / 2 ^ (w - 1) % 2 = 0 ∨ r / 2 ^ (w - 1) % 2 = 1 by omega) with h | h <;> simp [h]
theorem sh_bool (w P r : Nat) : sh w P r = (r * 2 % 2 ^ w) ^^^ (if r.testBit (w - 1) then P else 0) := by
  unfold sh
  rw [← top_bit]
  rcases (show r / 2 ^ (w - 1) % 2 = 0 ∨ r / 2 ^ (w - 1) % 2 = 1 by omega) with h | h <;> simp [h]
/-- A shift of a register with some bits put in ahead. -/
theorem sh_in (w P r X : Nat) : sh w P (r ^^^ X) = bst w P r (X.testBit (w - 1)) ^^^ (X * 2 % 2 ^ w) := by
  rw [sh_bool, bst, top_bit, xor_two, Nat.xor_mod_two_pow, Nat.testBit_xor, Nat.xor_assoc, Nat.xor_comm (X * 2 % 2 ^ w), ← Nat.xor_assoc]
  try (cases r.testBit (w - 1) <;> cases X.testBit (w - 1) <;> rfl)
/-- The register behind q bits of a byte, the greatest first. -/
def bts (w P r c : Nat) : Nat → Nat
  | 0 => r
  | q + 1 => bst w P (bts w P r c q) (c.testBit (7 - q))
theorem rest_bit (w c q : Nat) (hw : 8 ≤ w) (hq : q < 8) : (c % 2 ^ (8 - q) * 2 ^ (w - 8 + q)).testBit (w - 1) = c.testBit (7 - q) := by
  rw [Nat.testBit_mul_two_pow, Nat.testBit_mod_two_pow, show w - 1 - (w - 8 + q) = 7 - q by omega, decide_eq_true (show w - 8 + q ≤ w - 1 by omega), decide_eq_true (show 7 - q < 8 - q by omega), Bool.true_and, Bool.true_and]
theorem rest_next (w c q : Nat) (hw : 8 ≤ w) (hq : q < 8) : c % 2 ^ (8 - q) * 2 ^ (w - 8 + q) * 2 % 2 ^ w = c % 2 ^ (8 - (q + 1)) * 2 ^ (w - 8 + (q + 1)) := by
  apply Nat.eq_of_testBit_eq
  intro i
  rw [Nat.mul_assoc, ← Nat.pow_succ, Nat.testBit_mod_two_pow, Nat.testBit_mul_two_pow, Nat.testBit_mul_two_pow, Nat.testBit_mod_two_pow, Nat.testBit_mod_two_pow, show (w - 8 + q).succ = w - 8 + (q + 1) from rfl]
  by_cases h1 : w - 8 + (q + 1) ≤ i
  · by_cases h2 : i < w
    · rw [decide_eq_true h2, decide_eq_true h1, decide_eq_true (show i - (w - 8 + (q + 1)) < 8 - q by omega), decide_eq_true (show i - (w - 8 + (q + 1)) < 8 - (q + 1) by omega)]
      rfl
    · rw [decide_eq_false h2, decide_eq_true h1, decide_eq_false (show ¬ i - (w - 8 + (q + 1)) < 8 - (q + 1) by omega)]
      rfl
  · simp [h1]
theorem shs_bts (w P r c : Nat) (hw : 8 ≤ w) (hc : c < 256) : ∀ q, q ≤ 8 → shs w P (r ^^^ (c * 2 ^ (w - 8))) q = bts w P r c q ^^^ (c % 2 ^ (8 - q) * 2 ^ (w - 8 + q))
  | 0, _ => by
    rw [shs, bts, Nat.sub_zero, Nat.add_zero, Nat.mod_eq_of_lt hc]
  | q + 1, h => by
    rw [shs, shs_bts w P r c hw hc q (by omega), sh_in, rest_bit w c q hw (by omega), rest_next w c q hw (by omega), bts]
theorem stp_bts (w P : Nat) (t : Bool) (r c : Nat) (hw : 8 ≤ w) (hc : c < 256) : stp w P t r c = bts w P r (tc t c) 8 := by
  unfold stp
  rw [shs_bts w P r (tc t c) hw (tc_lt t c hc) 8 (Nat.le_refl _)]
  simp [Nat.mod_one]
theorem rv8_bit : ∀ c : Fin 256, ∀ k : Fin 8, (rv c.val 8).testBit (7 - k.val) = c.val.testBit k.val := by decide +kernel
theorem tc_bit (t : Bool) (c k : Nat) (hc : c < 256) (hk : k < 8) : (tc t c).testBit (7 - k) = c.testBit (if t then k else 7 - k) := by
  cases t
  · rfl
  · exact rv8_bit ⟨c, hc⟩ ⟨k, hk⟩
/-- The text's bits, in the order in which they are put in. -/
def raw (s : ByteArray) (t : Bool) (i : Nat) : Bool := (tc t (byteAt s (i / 8))).testBit (7 - i % 8)
/-- The register behind i bits. -/
def cb (w P : Nat) (t : Bool) (I : Nat) (s : ByteArray) : Nat → Nat
  | 0 => I
  | i + 1 => bst w P (cb w P t I s i) (raw s t i)
theorem cb_byte (w P : Nat) (t : Bool) (I : Nat) (s : ByteArray) (k : Nat) : ∀ q, q ≤ 8 → cb w P t I s (8 * k + q) = bts w P (cb w P t I s (8 * k)) (tc t (byteAt s k)) q
  | 0, _ => rfl
  | q + 1, h => by
    rw [← Nat.add_assoc, cb, cb_byte w P t I s k q (by omega), bts]
    unfold raw
    rw [show (8 * k + q) / 8 = k by omega, show (8 * k + q) % 8 = q by omega]
theorem cb_cr (w P : Nat) (t : Bool) (I : Nat) (s : ByteArray) (hw : 8 ≤ w) : ∀ k, cb w P t I s (8 * k) = cr w P t I s k
  | 0 => rfl
  | k + 1 => by
    rw [show 8 * (k + 1) = 8 * k + 8 by omega, cb_byte w P t I s k 8 (Nat.le_refl _), cb_cr w P t I s hw k, cr, stp_bts w P t _ _ hw (byteAt_lt s k)]
theorem bst_lt (w P r : Nat) (b : Bool) (hP : P < 2 ^ w) : bst w P r b < 2 ^ w := by
  unfold bst
  refine Nat.xor_lt_two_pow (Nat.mod_lt _ (Nat.two_pow_pos w)) ?_
  split
  · exact hP
  · exact Nat.two_pow_pos w
/-- The list behind i steps of the division: at place j. -/
def dv (w P : Nat) (t : Bool) (I : Nat) (s : ByteArray) (i j : Nat) : Bool := (decide (j < 8 * s.size) && raw s t j) != (decide (i ≤ j ∧ j < i + w) && (cb w P t I s i).testBit (w - 1 - (j - i)))
theorem ite_bit (b : Bool) (P n : Nat) : (if b = true then P else 0).testBit n = (b && P.testBit n) := by cases b <;> simp
/-- One step of the division, at the places that follow. -/
theorem dv_step (w P : Nat) (t : Bool) (I : Nat) (s : ByteArray) (i k : Nat) (hi : i < 8 * s.size) (hw : 1 ≤ w) (hk : k < w) : dv w P t I s (i + 1) (i + 1 + k) = (dv w P t I s i (i + 1 + k) != (dv w P t I s i i && P.testBit (w - 1 - k))) := by
  unfold dv
  rw [cb, bst, top_bit]
  rw [decide_eq_true (show i + 1 ≤ i + 1 + k ∧ i + 1 + k < i + 1 + w by omega), decide_eq_true (show i ≤ i ∧ i < i + w by omega), decide_eq_true (show i < 8 * s.size from hi), show i + 1 + k - (i + 1) = k by omega, show i - i = 0 by omega, Nat.sub_zero, show i + 1 + k - i = k + 1 by omega]
  rw [Nat.testBit_xor, ite_bit, Nat.testBit_mod_two_pow, decide_eq_true (show w - 1 - k < w by omega)]
  rw [show (cb w P t I s i * 2).testBit (w - 1 - k) = (decide (i ≤ i + 1 + k ∧ i + 1 + k < i + w) && (cb w P t I s i).testBit (w - 1 - (k + 1))) by
    rcases Nat.lt_or_ge (k + 1) w with h | h
    · rw [decide_eq_true (show i ≤ i + 1 + k ∧ i + 1 + k < i + w by omega), show w - 1 - k = (w - 1 - (k + 1)) + 1 by omega, Nat.testBit_succ, Nat.mul_div_cancel _ (by decide), Bool.true_and]
    · rw [decide_eq_false (show ¬ (i ≤ i + 1 + k ∧ i + 1 + k < i + w) by omega), show w - 1 - k = 0 by omega, Nat.testBit_zero]
      simp]
  cases (cb w P t I s i).testBit (w - 1) <;> cases raw s t i <;> cases (decide (i ≤ i + 1 + k ∧ i + 1 + k < i + w) && (cb w P t I s i).testBit (w - 1 - (k + 1))) <;> cases (decide (i + 1 + k < 8 * s.size) && raw s t (i + 1 + k)) <;> cases P.testBit (w - 1 - k) <;> simp_all
theorem dv_far (w P : Nat) (t : Bool) (I : Nat) (s : ByteArray) (i j : Nat) (h : i + w < j) : dv w P t I s (i + 1) j = dv w P t I s i j := by
  unfold dv
  rw [decide_eq_false (show ¬ (i + 1 ≤ j ∧ j < i + 1 + w) by omega), decide_eq_false (show ¬ (i ≤ j ∧ j < i + w) by omega)]
  simp
theorem dv_skip (w P : Nat) (t : Bool) (I : Nat) (s : ByteArray) (i j : Nat) (hi : i < 8 * s.size) (hw : 1 ≤ w) (h : dv w P t I s i i = false) (hj : i < j) : dv w P t I s (i + 1) j = dv w P t I s i j := by
  rcases Nat.lt_or_ge (i + w) j with h2 | h2
  · exact dv_far w P t I s i j h2
  · obtain ⟨k, rfl⟩ : ∃ k, j = i + 1 + k := ⟨j - (i + 1), by omega⟩
    rw [dv_step w P t I s i k hi hw (by omega), h]
    simp
theorem dv_last (w P : Nat) (t : Bool) (I : Nat) (s : ByteArray) (k : Nat) (hk : k < w) : dv w P t I s (8 * s.size) (8 * s.size + k) = (cb w P t I s (8 * s.size)).testBit (w - 1 - k) := by
  unfold dv
  rw [decide_eq_false (show ¬ (8 * s.size + k < 8 * s.size) by omega), decide_eq_true (show 8 * s.size ≤ 8 * s.size + k ∧ 8 * s.size + k < 8 * s.size + w by omega), show 8 * s.size + k - 8 * s.size = k by omega]
  simp
theorem dv_first (w P : Nat) (t : Bool) (I : Nat) (s : ByteArray) (j : Nat) : dv w P t I s 0 j = ((decide (j < 8 * s.size) && raw s t j) != (decide (j < w) && I.testBit (w - 1 - j))) := by
  unfold dv
  rw [cb, Nat.sub_zero, Nat.zero_add]
  congr 2
  rw [decide_eq_decide]; omega
/-- A number out of its bits, the greatest first. -/
theorem num_next (r w k : Nat) (hk : k < w) : r / 2 ^ (w - k) * 2 + (r.testBit (w - 1 - k)).toNat = r / 2 ^ (w - (k + 1)) := by
  rw [Nat.testBit_eq_decide_div_mod_eq, show w - k = w - 1 - k + 1 by omega, show w - (k + 1) = w - 1 - k by omega, Nat.pow_succ, ← Nat.div_div_eq_div_mul]
  rcases (show r / 2 ^ (w - 1 - k) % 2 = 0 ∨ r / 2 ^ (w - 1 - k) % 2 = 1 by omega) with h | h
  · rw [h]; simp; omega
  · rw [h]; simp; omega
end Go.Proofs.YtifnochpmlllgaaDoor.Sum
