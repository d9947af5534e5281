/-
  PROVED HERE: what undoes a step by a byte, and which bytes lead from a register to another one, over any program. Conditions: as each theorem states.
-/
import Derived.Test.YtifnochpmlllgaaDoorSumG
namespace Go.Proofs.YtifnochpmlllgaaDoor.Sum
open Go.RowKit
/-- The register, moved back by one bit. -/
def bk (w P r : Nat) : Nat := (r ^^^ (P * (r % 2))) / 2 + r % 2 * 2 ^ (w - 1)
theorem bk_half (w P r : Nat) (hw : 1 ≤ w) (hP : P < 2 ^ w) (hr : r < 2 ^ w) : (r ^^^ (P * (r % 2))) / 2 < 2 ^ (w - 1) := by
  have h : r ^^^ (P * (r % 2)) < 2 ^ w := by
    refine Nat.xor_lt_two_pow hr ?_
    rcases (show r % 2 = 0 ∨ r % 2 = 1 by omega) with h | h
    · rw [h, Nat.mul_zero]; exact Nat.two_pow_pos w
    · rw [h, Nat.mul_one]; exact hP
  have e : 2 ^ w = 2 ^ (w - 1) * 2 := by rw [← Nat.pow_succ]; congr 1; omega
  omega
theorem bk_lt (w P r : Nat) (hw : 1 ≤ w) (hP : P < 2 ^ w) (hr : r < 2 ^ w) : bk w P r < 2 ^ w := by
  have h := bk_half w P r hw hP hr
  have e : 2 ^ w = 2 ^ (w - 1) * 2 := by rw [← Nat.pow_succ]; congr 1; omega
  unfold bk
  rcases (show r % 2 = 0 ∨ r % 2 = 1 by omega) with h1 | h1
  · rw [h1, Nat.zero_mul]; rw [h1] at h; omega
  · rw [h1, Nat.one_mul]; rw [h1] at h; omega
theorem even_xor (P r : Nat) (hodd : P % 2 = 1) : (r ^^^ (P * (r % 2))) % 2 = 0 := by
  rw [show (2 : Nat) = 2 ^ 1 from rfl, Nat.xor_mod_two_pow]
  rcases (show r % 2 = 0 ∨ r % 2 = 1 by omega) with h | h
  · rw [show (2 : Nat) ^ 1 = 2 from rfl, h, Nat.mul_zero]; rfl
  · rw [show (2 : Nat) ^ 1 = 2 from rfl, h, Nat.mul_one, hodd]; rfl
theorem sh_bk (w P r : Nat) (hw : 1 ≤ w) (hodd : P % 2 = 1) (hP : P < 2 ^ w) (hr : r < 2 ^ w) : sh w P (bk w P r) = r := by
  have h := bk_half w P r hw hP hr
  have ev := even_xor P r hodd
  have e : 2 ^ w = 2 ^ (w - 1) * 2 := by rw [← Nat.pow_succ]; congr 1; omega
  have hp : 0 < 2 ^ (w - 1) := Nat.two_pow_pos _
  have e1 : bk w P r / 2 ^ (w - 1) % 2 = r % 2 := by
    unfold bk
    rw [Nat.add_mul_div_right _ _ hp, Nat.div_eq_of_lt h, Nat.zero_add, Nat.mod_mod]
  have e2 : bk w P r * 2 % 2 ^ w = r ^^^ (P * (r % 2)) := by
    unfold bk
    rw [e, Nat.mul_mod_mul_right, Nat.add_mul_mod_self_right, Nat.mod_eq_of_lt h]
    omega
  unfold sh
  rw [e1, e2, Nat.xor_assoc, Nat.xor_self, Nat.xor_zero]
def bks (w P r : Nat) : Nat → Nat
  | 0 => r
  | k + 1 => bk w P (bks w P r k)
theorem bks_lt (w P r : Nat) (hw : 1 ≤ w) (hP : P < 2 ^ w) (hr : r < 2 ^ w) : ∀ k, bks w P r k < 2 ^ w
  | 0 => hr
  | k + 1 => bk_lt w P _ hw hP (bks_lt w P r hw hP hr k)
theorem shs_first (w P r : Nat) : ∀ k, shs w P r (k + 1) = shs w P (sh w P r) k
  | 0 => rfl
  | k + 1 => by rw [shs, shs_first w P r k, shs]
theorem shs_bks (w P r : Nat) (hw : 1 ≤ w) (hodd : P % 2 = 1) (hP : P < 2 ^ w) (hr : r < 2 ^ w) : ∀ k, shs w P (bks w P r k) k = r
  | 0 => rfl
  | k + 1 => by rw [bks, shs_first, sh_bk w P _ hw hodd hP (bks_lt w P r hw hP hr k), shs_bks w P r hw hodd hP hr k]
theorem shs_add (w P r j : Nat) : ∀ k, shs w P r (j + k) = shs w P (shs w P r j) k
  | 0 => rfl
  | k + 1 => by rw [← Nat.add_assoc, shs, shs_add w P r j k, shs]
theorem bks_add (w P r j : Nat) : ∀ k, bks w P r (j + k) = bks w P (bks w P r j) k
  | 0 => rfl
  | k + 1 => by rw [← Nat.add_assoc, bks, bks_add w P r j k, bks]
/-- The register ahead of a byte. -/
def bst8 (w P : Nat) (t : Bool) (r c : Nat) : Nat := bks w P r 8 ^^^ (tc t c * 2 ^ (w - 8))
theorem tc_top (w : Nat) (t : Bool) (c : Nat) (hw : 8 ≤ w) (hc : c < 256) : tc t c * 2 ^ (w - 8) < 2 ^ w := by
  have h := tc_lt t c hc
  have e : 2 ^ w = 256 * 2 ^ (w - 8) := by rw [show (256 : Nat) = 2 ^ 8 from rfl, ← Nat.pow_add]; congr 1; omega
  rw [e]
  exact Nat.mul_lt_mul_of_pos_right h (Nat.two_pow_pos _)
theorem bst8_lt (w P : Nat) (t : Bool) (r c : Nat) (hw : 8 ≤ w) (hP : P < 2 ^ w) (hr : r < 2 ^ w) (hc : c < 256) : bst8 w P t r c < 2 ^ w :=
  Nat.xor_lt_two_pow (bks_lt w P r (by omega) hP hr 8) (tc_top w t c hw hc)
theorem stp_bst8 (w P : Nat) (t : Bool) (r c : Nat) (hw : 8 ≤ w) (hodd : P % 2 = 1) (hP : P < 2 ^ w) (hr : r < 2 ^ w) : stp w P t (bst8 w P t r c) c = r := by
  unfold stp bst8
  rw [Nat.xor_assoc, Nat.xor_self, Nat.xor_zero]
  exact shs_bks w P r (by omega) hodd hP hr 8
/-- Behind k bytes that are all 0. -/
def bz (w P r : Nat) (k : Nat) : Nat := bks w P r (8 * k)
theorem bz_succ (w P : Nat) (t : Bool) (r k : Nat) : bst8 w P t (bz w P r k) 0 = bz w P r (k + 1) := by
  unfold bst8 bz
  have e : tc t 0 = 0 := by cases t <;> rfl
  rw [e, Nat.zero_mul, Nat.xor_zero, show 8 * (k + 1) = 8 * k + 8 by omega, bks_add]
theorem sh_low (w P a x : Nat) (hw : 1 ≤ w) (hx : x < 2 ^ (w - 1)) : sh w P (a ^^^ x) = sh w P a ^^^ (x * 2) := by
  have e : 2 ^ w = 2 ^ (w - 1) * 2 := by rw [← Nat.pow_succ]; congr 1; omega
  rw [sh_in, bst, Nat.testBit_lt_two_pow hx, Nat.mod_eq_of_lt (show x * 2 < 2 ^ w by omega), sh_bool, top_bit]
  congr 2
  cases a.testBit (w - 1) <;> rfl
theorem shs_low (w P a x : Nat) : ∀ k, k ≤ w → x < 2 ^ (w - k) → shs w P (a ^^^ x) k = shs w P a k ^^^ (x * 2 ^ k)
  | 0, _, _ => by rw [shs, shs, Nat.pow_zero, Nat.mul_one]
  | k + 1, h, hx => by
    have e : 2 ^ (w - k) = 2 ^ (w - (k + 1)) * 2 := by rw [← Nat.pow_succ]; congr 1; omega
    have hx1 : x < 2 ^ (w - k) := by have := Nat.two_pow_pos (w - (k + 1)); omega
    have e2 : 2 ^ (w - 1) = 2 ^ (w - (k + 1)) * 2 ^ k := by rw [← Nat.pow_add]; congr 1; omega
    have hx2 : x * 2 ^ k < 2 ^ (w - 1) := by rw [e2]; exact Nat.mul_lt_mul_of_pos_right hx (Nat.two_pow_pos k)
    rw [shs, shs_low w P a x k (by omega) hx1, sh_low w P _ _ (by omega) hx2, shs, Nat.mul_assoc, ← Nat.pow_succ]
/-- The byte of number k of d, the greatest first. -/
def dby (w d k : Nat) : Nat := d / 2 ^ (w - 8 - 8 * k) % 256
theorem dby_lt (w d k : Nat) : dby w d k < 256 := Nat.mod_lt _ (by decide)
theorem dby_top (w d k : Nat) (hk : 8 * k + 8 ≤ w) : d * 2 ^ (8 * k) % 2 ^ w = (dby w d k * 2 ^ (w - 8)) ^^^ (d % 2 ^ (w - 8 - 8 * k) * 2 ^ (8 * k)) := by
  apply Nat.eq_of_testBit_eq
  intro i
  rw [Nat.testBit_xor, Nat.testBit_mod_two_pow, Nat.testBit_mul_two_pow, Nat.testBit_mul_two_pow, Nat.testBit_mul_two_pow]
  unfold dby
  rw [show (256 : Nat) = 2 ^ 8 from rfl, Nat.testBit_mod_two_pow, Nat.testBit_div_two_pow, Nat.testBit_mod_two_pow]
  by_cases h1 : i < w
  · by_cases h2 : w - 8 ≤ i
    · rw [decide_eq_true h1, decide_eq_true h2, decide_eq_true (show 8 * k ≤ i by omega), decide_eq_true (show i - (w - 8) < 8 by omega), decide_eq_false (show ¬ i - 8 * k < w - 8 - 8 * k by omega), show i - (w - 8) + (w - 8 - 8 * k) = i - 8 * k by omega]
      simp
    · by_cases h3 : 8 * k ≤ i
      · rw [decide_eq_true h1, decide_eq_false h2, decide_eq_true h3, decide_eq_true (show i - 8 * k < w - 8 - 8 * k by omega)]
        simp
      · simp [h1, h2, h3]
  · by_cases h3 : 8 * k ≤ i
    · rw [decide_eq_false h1, decide_eq_false (show ¬ i - (w - 8) < 8 by omega), decide_eq_false (show ¬ i - 8 * k < w - 8 - 8 * k by omega)]
      simp
    · omega
/-- The register behind k of the bytes of d. -/
def fd (w P r d : Nat) : Nat → Nat
  | 0 => r
  | k + 1 => shs w P (fd w P r d k ^^^ (dby w d k * 2 ^ (w - 8))) 8
theorem fd_shs (w P r d : Nat) (hd : d < 2 ^ w) : ∀ k, 8 * k ≤ w → fd w P r d k ^^^ (d * 2 ^ (8 * k) % 2 ^ w) = shs w P (r ^^^ d) (8 * k)
  | 0, _ => by rw [fd, Nat.mul_zero, Nat.pow_zero, Nat.mul_one, Nat.mod_eq_of_lt hd, shs]
  | k + 1, h => by
    have ih := fd_shs w P r d hd k (by omega)
    have hlow : d % 2 ^ (w - 8 - 8 * k) * 2 ^ (8 * k) < 2 ^ (w - 8) := by
      rw [show 2 ^ (w - 8) = 2 ^ (w - 8 - 8 * k) * 2 ^ (8 * k) by rw [← Nat.pow_add]; congr 1; omega]
      exact Nat.mul_lt_mul_of_pos_right (Nat.mod_lt _ (Nat.two_pow_pos _)) (Nat.two_pow_pos _)
    rw [show 8 * (k + 1) = 8 * k + 8 by omega, shs_add, ← ih, dby_top w d k (by omega), ← Nat.xor_assoc, shs_low w P _ _ 8 (by omega) hlow, fd]
    congr 1
    rw [Nat.mul_assoc, ← Nat.pow_add]
    have e : 2 ^ w = 2 ^ (w - (8 * k + 8)) * 2 ^ (8 * k + 8) := by rw [← Nat.pow_add]; congr 1; omega
    rw [e, Nat.mul_mod_mul_right, show w - 8 - 8 * k = w - (8 * k + 8) by omega]
/-- All bytes of the difference lead there. -/
theorem fd_there (w P r to n : Nat) (hn : w = 8 * n) (hw : 8 ≤ w) (hodd : P % 2 = 1) (hP : P < 2 ^ w) (hr : r < 2 ^ w) (hto : to < 2 ^ w) : fd w P r (r ^^^ bz w P to n) n = to := by
  have hb : bz w P to n < 2 ^ w := bks_lt w P to (by omega) hP hto _
  have h := fd_shs w P r (r ^^^ bz w P to n) (Nat.xor_lt_two_pow hr hb) n (by omega)
  rw [← hn, Nat.mul_mod_left, Nat.xor_zero, ← Nat.xor_assoc, Nat.xor_self, Nat.zero_xor] at h
  rw [h]
  unfold bz
  rw [← hn]
  exact shs_bks w P to (by omega) hodd hP hto w
end Go.Proofs.YtifnochpmlllgaaDoor.Sum
