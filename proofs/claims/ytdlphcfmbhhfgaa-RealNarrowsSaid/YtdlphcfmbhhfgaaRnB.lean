/-
  PROVED HERE: that rounding by a mask, as real.Narrow does it, is the nearer of the two neighbours, in plain Lean. Conditions: as each theorem states.
-/
import Derived.Test.YtdlphcfmbhhfgaaRnA
namespace Go.Proofs.Ytdlphcfmbhhfgaa.Rn
/-- What Narrow makes of the bits without their sign, where they are no NaN. -/
def nar (k : Nat) : Nat :=
  if k / 2 ^ 52 < 866 then 0
  else if k / 2 ^ 52 ≤ 896 then rnd (k % 2 ^ 52 + 2 ^ 52) (926 - k / 2 ^ 52)
  else min (rnd (k % 2 ^ 52 + 2 ^ 52) 29 + (k / 2 ^ 52 - 897) * 2 ^ 23) (255 * 2 ^ 23)
theorem mul_pow_le (a n : Nat) : a * 1 ≤ a * 2 ^ n := Nat.mul_le_mul_left _ (Nat.two_pow_pos n)
theorem ph_hi (n E k : Nat) (h : E = k + 1) : ph n (E * 2 ^ n) = 2 ^ n * 2 ^ k := by
  subst h
  have e := ph_high n (k + 1) 0 (Nat.two_pow_pos n) (Nat.succ_pos k)
  rw [Nat.add_zero, Nat.zero_add, Nat.add_sub_cancel] at e
  exact e
theorem pow_eq5 (a b c d e : Nat) (h : a + b + c = d + e) : 2 ^ a * 2 ^ b * 2 ^ c = 2 ^ d * 2 ^ e := by rw [← Nat.pow_add, ← Nat.pow_add, ← Nat.pow_add, h]
theorem pow_lt4 (a b c d : Nat) (h : a + b + c < d) : 2 ^ a * 2 ^ b * 2 ^ c < 2 ^ d := by
  rw [← Nat.pow_add, ← Nat.pow_add]
  exact Nat.pow_lt_pow_right (by decide) h
theorem pow_split (a b c : Nat) (h : a + b = c) : 2 ^ a * 2 ^ b = 2 ^ c := by rw [← Nat.pow_add, h]
theorem hp_mul (D j e c : Nat) (hD : ∀ a b, a + b = 925 → 2 ^ a * 2 ^ b = D) (hc : 29 + c = 925) (he : j + c = e) : 2 ^ j * D = 2 ^ 29 * 2 ^ e := by
  rw [← hD 29 c hc, Nat.mul_left_comm, pow_split j c e he]
theorem ph_small (x : Nat) (h : x ≤ 2 ^ 24) : ph 23 x = x := by
  have hx := parts 23 x
  have hF := Nat.mod_lt x (Nat.two_pow_pos 23)
  by_cases h1 : x < 2 ^ 23
  · have := ph_low 23 0 x h1 rfl
    rwa [Nat.zero_mul, Nat.zero_add] at this
  · by_cases h2 : x = 2 ^ 24
    · subst h2; decide
    · have := ph_high 23 1 (x - 2 ^ 23) (by omega) (by decide)
      rw [Nat.one_mul, show 2 ^ 23 + (x - 2 ^ 23) = x by omega, show x - 2 ^ 23 + 2 ^ 23 = x by omega] at this
      rw [this]; simp
/-- The place low, and its rounding. -/
theorem nar_low (D : Nat) (hD : ∀ a b, a + b = 925 → 2 ^ a * 2 ^ b = D) (k : Nat) (hk : k < 1151 * 2 ^ 52) :
    ∃ low, low < 255 * 2 ^ 23 ∧ ph 23 low * D ≤ ph 52 k ∧ ph 52 k < ph 23 (low + 1) * D ∧ near (ph 52 k) D low = nar k := by
  have hp := parts 52 k
  have hf := Nat.mod_lt k (Nat.two_pow_pos 52)
  have he : k / 2 ^ 52 < 1151 := by rw [Nat.div_lt_iff_lt_mul (Nat.two_pow_pos _)]; exact hk
  unfold nar
  generalize k / 2 ^ 52 = e at *
  generalize k % 2 ^ 52 = f at *
  subst hp
  by_cases h1 : e < 866
  · have hZ : ph 52 (e * 2 ^ 52 + f) * 2 < D := by
      by_cases h0 : e = 0
      · rw [ph_low 52 e f hf h0]
        have h5 := hD 53 872 rfl
        have h6 := mul_pow_le (2 ^ 53) 872
        rw [h5] at h6
        clear h5
        omega
      · rw [ph_high 52 e f hf (by omega)]
        have a1 : (f + 2 ^ 52) * 2 ^ (e - 1) < 2 ^ 53 * 2 ^ (e - 1) := Nat.mul_lt_mul_of_pos_right (by omega) (Nat.two_pow_pos _)
        have h5 := hD (53 + (e - 1) + 1) (871 - (e - 1)) (by omega)
        have h6 : 2 ^ (53 + (e - 1) + 1) * 1 ≤ 2 ^ (53 + (e - 1) + 1) * 2 ^ (871 - (e - 1)) := Nat.mul_le_mul_left _ (Nat.two_pow_pos _)
        rw [h5, Nat.pow_succ, Nat.pow_add] at h6
        clear h5
        generalize 2 ^ 53 * 2 ^ (e - 1) = u at *
        omega
    have g0 : ph 23 0 = 0 := by decide
    have g1 : ph 23 (0 + 1) = 1 := by decide
    refine ⟨0, by decide, by rw [g0]; omega, by rw [g1]; omega, ?_⟩
    unfold near
    rw [g0, g1, if_pos (.inl (by omega)), if_pos h1]
  · rw [if_neg h1]
    rw [ph_high 52 e f hf (by omega)]
    have hm1 : 2 ^ 52 ≤ f + 2 ^ 52 := by omega
    have hm2 : f + 2 ^ 52 < 2 ^ 53 := by omega
    generalize f + 2 ^ 52 = m at *
    by_cases h2 : e ≤ 896
    · rw [if_pos h2]
      obtain ⟨d, hd⟩ : ∃ d, 926 - e = d := ⟨_, rfl⟩
      rw [hd]
      have hq : m / 2 ^ d < 2 ^ 23 := by
        rw [Nat.div_lt_iff_lt_mul (Nat.two_pow_pos _), pow_split 23 d (23 + d) rfl]
        exact Nat.lt_of_lt_of_le hm2 (Nat.pow_le_pow_right (by decide) (by omega))
      have hdm := Nat.div_add_mod m (2 ^ d)
      have hr := Nat.mod_lt m (Nat.two_pow_pos d)
      have hP : D = 2 ^ d * 2 ^ (e - 1) := (hD d (e - 1) (by omega)).symm
      have e1 : ph 23 (m / 2 ^ d) * D = m / 2 ^ d * 2 ^ d * 2 ^ (e - 1) := by rw [ph_small _ (by omega), hP, Nat.mul_assoc]
      have e2 : ph 23 (m / 2 ^ d + 1) * D = (m / 2 ^ d + 1) * 2 ^ d * 2 ^ (e - 1) := by rw [ph_small _ (by omega), hP, Nat.mul_assoc]
      have hN := rnd_near m d (e - 1) D (m / 2 ^ d) 0 (by omega) rfl (Nat.add_zero _).symm e1 e2
      refine ⟨m / 2 ^ d, by omega, ?_, ?_, by rw [hN, Nat.add_zero]⟩
      · rw [e1]
        exact Nat.mul_le_mul_right _ (Nat.div_mul_le_self _ _)
      · rw [e2]
        refine Nat.mul_lt_mul_of_pos_right ?_ (Nat.two_pow_pos _)
        rw [Nat.add_mul, Nat.mul_comm (m / 2 ^ d)]
        omega
    · rw [if_neg h2]
      have hq1 : 2 ^ 23 ≤ m / 2 ^ 29 := by omega
      have hq2 : m / 2 ^ 29 < 2 ^ 24 := by omega
      obtain ⟨j, hj⟩ : ∃ j, e - 897 = j := ⟨_, rfl⟩
      rw [hj]
      have hP : 2 ^ j * D = 2 ^ 29 * 2 ^ (e - 1) := hp_mul D j (e - 1) 896 hD rfl (by omega)
      have gl : ∀ q, 2 ^ 23 ≤ q → q ≤ 2 ^ 24 → ph 23 (q + j * 2 ^ 23) = q * 2 ^ j := fun q h3 h4 => by
        by_cases h5 : q < 2 ^ 24
        · have := ph_high 23 (j + 1) (q - 2 ^ 23) (by omega) (by omega)
          rw [show (j + 1) * 2 ^ 23 + (q - 2 ^ 23) = q + j * 2 ^ 23 by rw [Nat.add_mul]; omega, show q - 2 ^ 23 + 2 ^ 23 = q by omega, Nat.add_sub_cancel] at this
          exact this
        · obtain rfl : q = 2 ^ 24 := by omega
          have := ph_high 23 (j + 2) 0 (by decide) (by omega)
          rw [show (j + 2) * 2 ^ 23 + 0 = 2 ^ 24 + j * 2 ^ 23 by rw [Nat.add_mul]; omega, Nat.zero_add, show j + 2 - 1 = j + 1 by omega, Nat.pow_succ] at this
          rw [this]
          omega
      have e1 : ph 23 (m / 2 ^ 29 + j * 2 ^ 23) * D = m / 2 ^ 29 * 2 ^ 29 * 2 ^ (e - 1) := by rw [gl _ hq1 (by omega), Nat.mul_assoc, hP, Nat.mul_assoc]
      have e2 : ph 23 (m / 2 ^ 29 + j * 2 ^ 23 + 1) * D = (m / 2 ^ 29 + 1) * 2 ^ 29 * 2 ^ (e - 1) := by
        rw [show m / 2 ^ 29 + j * 2 ^ 23 + 1 = (m / 2 ^ 29 + 1) + j * 2 ^ 23 by omega, gl _ (by omega) (by omega), Nat.mul_assoc, hP, Nat.mul_assoc]
      have hN := rnd_near m 29 (e - 1) D (m / 2 ^ 29 + j * 2 ^ 23) (j * 2 ^ 23) (by decide) (by omega) rfl e1 e2
      have hj2 : j ≤ 253 := by omega
      have hjm : j * 2 ^ 23 ≤ 253 * 2 ^ 23 := Nat.mul_le_mul_right _ hj2
      have hlow : m / 2 ^ 29 + j * 2 ^ 23 < 255 * 2 ^ 23 := by omega
      refine ⟨m / 2 ^ 29 + j * 2 ^ 23, hlow, ?_, ?_, ?_⟩
      · rw [e1]
        exact Nat.mul_le_mul_right _ (Nat.div_mul_le_self _ _)
      · rw [e2]
        refine Nat.mul_lt_mul_of_pos_right ?_ (Nat.two_pow_pos _)
        omega
      · rw [hN]
        have : near (m * 2 ^ (e - 1)) D (m / 2 ^ 29 + j * 2 ^ 23) ≤ m / 2 ^ 29 + j * 2 ^ 23 + 1 := by unfold near; split <;> omega
        rw [hN] at this
        rw [Nat.min_eq_left (by omega)]
/-- What halving has found is what rounding makes. -/
theorem nar_is (D : Nat) (hD : ∀ a b, a + b = 925 → 2 ^ a * 2 ^ b = D) (k low : Nat) (hk : k < 1151 * 2 ^ 52) (h1 : ph 23 low * D ≤ ph 52 k) (h2 : ph 52 k < ph 23 (low + 1) * D) : near (ph 52 k) D low = nar k := by
  obtain ⟨l, _, g1, g2, g3⟩ := nar_low D hD k hk
  rw [ph_only 23 D (ph 52 k) low l h1 h2 g1 g2]
  exact g3
theorem nar_top (k : Nat) (hk : 1151 * 2 ^ 52 ≤ k) : nar k = 255 * 2 ^ 23 := by
  have he : 1151 ≤ k / 2 ^ 52 := by rw [Nat.le_div_iff_mul_le (Nat.two_pow_pos _)]; exact hk
  have hf := Nat.mod_lt k (Nat.two_pow_pos 52)
  unfold nar
  rw [if_neg (by omega), if_neg (by omega)]
  apply Nat.min_eq_right
  have hr : 2 ^ 23 ≤ rnd (k % 2 ^ 52 + 2 ^ 52) 29 := by
    have : 2 ^ 23 ≤ (k % 2 ^ 52 + 2 ^ 52) / 2 ^ 29 := by omega
    unfold rnd
    split <;> omega
  have : 254 * 2 ^ 23 ≤ (k / 2 ^ 52 - 897) * 2 ^ 23 := Nat.mul_le_mul_right _ (by omega)
  omega
end Go.Proofs.Ytdlphcfmbhhfgaa.Rn
