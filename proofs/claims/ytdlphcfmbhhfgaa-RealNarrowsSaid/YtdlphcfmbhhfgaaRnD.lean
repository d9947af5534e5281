/-
  PROVED HERE: what the wider form of 32 bits is, as a whole number of its least unit. Conditions: as each theorem states.
-/
import Derived.Test.YtdlphcfmbhhfgaaRnB
import Derived.Test.YtdlphcfmbhhfgaaRealY
namespace Go.Proofs.Ytdlphcfmbhhfgaa.Rn
open Go.RowKit Real
theorem wid_one (j S : Nat) (h : j ≤ 897) : jn 11 52 false (897 - (j : Int)) (((S - 8388608) * 536870912 : Nat) : Int) = (((897 - j) * 4503599627370496 + (S - 8388608) * 536870912 : Nat) : Int) := by
  unfold jn
  have e : (((2 : Nat) ^ 52 : Nat) : Int) = 4503599627370496 := by decide
  rw [e, if_neg (by decide)]
  omega
theorem wid_two (E F : Nat) : jn 11 52 false ((E : Int) + 896) ((F : Int) * 536870912) = (((E + 896) * 4503599627370496 + F * 536870912 : Nat) : Int) := by
  unfold jn
  have e : (((2 : Nat) ^ 52 : Nat) : Int) = 4503599627370496 := by decide
  rw [e, if_neg (by decide)]
  omega
theorem wid_bound (S : Nat) (h1 : 8388608 ≤ S) (h2 : S < 16777216) : (S - 8388608) * 536870912 < 2 ^ 52 ∧ (S - 8388608) * 536870912 + 2 ^ 52 = S * 2 ^ 29 := by omega
theorem wid_bd2 (E F : Nat) (hE : E < 255) (hF : F < 8388608) : (E + 896) * 4503599627370496 + F * 536870912 < 2047 * 2 ^ 52 := by omega
theorem wid_bd3 (F : Nat) (hF : F < 8388608) : F * 536870912 < 2 ^ 52 := by omega
theorem wid_bd4 (F : Nat) : F * 536870912 + 2 ^ 52 = (F + 2 ^ 23) * 2 ^ 29 := by omega
theorem wid_exp (E : Nat) (h : E ≠ 0) : (2 : Nat) ^ (E + 896 - 1) = 2 ^ (E - 1) * 2 ^ 896 := by
  have e : E + 896 - 1 = E - 1 + 896 := by omega
  exact (congrArg (fun n => 2 ^ n) e).trans (Nat.pow_add 2 (E - 1) 896)
theorem wid_ph (D : Nat) (hD : ∀ a b, a + b = 925 → 2 ^ a * 2 ^ b = D) (x : Nat) (hx : x < 255 * 2 ^ 23) :
    ∃ w : Nat, wid (neg32 (x : Int)) (exp32 (x : Int)) (frac32 (x : Int)) = (w : Int) ∧ w < 2047 * 2 ^ 52 ∧ ph 52 w = ph 23 x * D := by
  have hp := parts 23 x
  have hF := Nat.mod_lt x (Nat.two_pow_pos 23)
  have hE : x / 2 ^ 23 < 255 := by rw [Nat.div_lt_iff_lt_mul (Nat.two_pow_pos _)]; exact hx
  have hN : neg32 (x : Int) = false := by
    unfold neg32
    rw [beq_eq_false_iff_ne]
    have : x < 2139095040 := hx
    omega
  have hEe : exp32 (x : Int) = ((x / 2 ^ 23 : Nat) : Int) := by
    unfold exp32
    have : x < 2139095040 := hx
    omega
  have hFe : frac32 (x : Int) = ((x % 2 ^ 23 : Nat) : Int) := by unfold frac32; omega
  rw [hN, hEe, hFe]
  clear hN hEe hFe
  generalize x / 2 ^ 23 = E at *
  generalize x % 2 ^ 23 = F at *
  subst hp
  clear hx
  unfold wid
  rw [if_neg (by omega)]
  by_cases h0 : E = 0
  · subst h0
    rw [if_pos (by rfl)]
    by_cases h1 : F = 0
    · subst h1
      rw [if_pos (by rfl)]
      refine ⟨0, by simp [jn], by decide, ?_⟩
      have e1 : ph 52 0 = 0 := by decide
      have e2 : ph 23 (0 * 2 ^ 23 + 0) = 0 := by decide
      rw [e1, e2, Nat.zero_mul]
    · rw [if_neg (by omega)]
      have hf := far_spec F (by omega) (by omega)
      obtain ⟨f1, f2, _, _, f5, f6⟩ := hf
      rw [Int.toNat_natCast]
      have hsh : sh F (far F) = F * 2 ^ far F := rfl
      generalize far F = j at *
      obtain ⟨S, hS⟩ : ∃ S, S = sh F j := ⟨_, rfl⟩
      rw [← hS] at f5 f6 hsh ⊢
      have hSm : (((S : Nat) : Int) % 8388608 * 536870912) = (((S - 8388608) * 536870912 : Nat) : Int) := by omega
      rw [hSm]
      refine ⟨(897 - j) * 4503599627370496 + (S - 8388608) * 536870912, ?_, ?_, ?_⟩
      · have h9 := wid_one j S (by omega)
        exact h9
      · have : (2047 * 2 ^ 52 : Nat) = 2047 * 4503599627370496 := rfl
        rw [this]
        clear hS hsh hD
        omega
      · have hb := wid_bound S f5 f6
        have h9 : (897 - j) * 4503599627370496 + (S - 8388608) * 536870912 = (897 - j) * 2 ^ 52 + (S - 8388608) * 536870912 := rfl
        rw [h9, ph_high 52 (897 - j) _ hb.1 (by clear hS hsh hD hb h9 hSm; omega), ph_low 23 0 F hF rfl]
        have e : (S - 8388608) * 536870912 + 2 ^ 52 = F * 2 ^ j * 2 ^ 29 := by rw [← hsh]; exact hb.2
        rw [e, show 897 - j - 1 = 896 - j by omega, ← hD (j + 29) (896 - j) (by clear hS hsh hb hSm h9 e; omega), Nat.pow_add, Nat.mul_assoc F, Nat.mul_assoc F]
  · rw [if_neg (by omega)]
    have hF' : F < 8388608 := hF
    refine ⟨(E + 896) * 4503599627370496 + F * 536870912, wid_two E F, wid_bd2 E F hE hF', ?_⟩
    · have h9 : (E + 896) * 4503599627370496 + F * 536870912 = (E + 896) * 2 ^ 52 + F * 536870912 := rfl
      rw [h9, ph_high 52 (E + 896) _ (wid_bd3 F hF') (by omega), ph_high 23 E F hF (by omega)]
      have e : F * 536870912 + 2 ^ 52 = (F + 2 ^ 23) * 2 ^ 29 := wid_bd4 F
      have e7 : 2 ^ 29 * 2 ^ (E + 896 - 1) = 2 ^ (E - 1) * D := by rw [wid_exp E (by omega), ← hD 29 896 rfl, Nat.mul_left_comm]
      rw [e, Nat.mul_assoc, Nat.mul_assoc, e7]
theorem hD925 : ∀ a b, a + b = 925 → 2 ^ a * 2 ^ b = 2 ^ 925 := fun a b h => by rw [← Nat.pow_add, h]
end Go.Proofs.Ytdlphcfmbhhfgaa.Rn
