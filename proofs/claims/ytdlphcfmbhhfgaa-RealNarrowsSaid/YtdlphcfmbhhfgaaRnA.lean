/-
  PROVED HERE: reals as whole numbers of their least unit, and which of two neighbours is nearer, in plain Lean. Conditions: as each theorem states.
-/
import Derived.Test.YtdlphcfmbhhfgaaMem
namespace Go.Proofs.Ytdlphcfmbhhfgaa.Rn
/-- The number that bits with n bits of a fraction are, in units of the least one. -/
def ph (n x : Nat) : Nat := if x / 2 ^ n = 0 then x % 2 ^ n else (x % 2 ^ n + 2 ^ n) * 2 ^ (x / 2 ^ n - 1)
theorem ph_low (n E F : Nat) (hF : F < 2 ^ n) (hE : E = 0) : ph n (E * 2 ^ n + F) = F := by
  subst hE
  unfold ph
  rw [Nat.zero_mul, Nat.zero_add, Nat.div_eq_of_lt hF, if_pos rfl, Nat.mod_eq_of_lt hF]
theorem ph_high (n E F : Nat) (hF : F < 2 ^ n) (hE : 0 < E) : ph n (E * 2 ^ n + F) = (F + 2 ^ n) * 2 ^ (E - 1) := by
  have hp : 0 < 2 ^ n := Nat.two_pow_pos n
  have h1 : (E * 2 ^ n + F) / 2 ^ n = E := by
    rw [Nat.mul_comm, Nat.mul_add_div hp, Nat.div_eq_of_lt hF]; omega
  have h2 : (E * 2 ^ n + F) % 2 ^ n = F := by
    rw [Nat.mul_comm, Nat.mul_add_mod, Nat.mod_eq_of_lt hF]
  unfold ph
  rw [h1, h2, if_neg (by omega)]
theorem parts (n x : Nat) : x = x / 2 ^ n * 2 ^ n + x % 2 ^ n := by
  have := Nat.div_add_mod x (2 ^ n)
  rw [Nat.mul_comm]
  omega
theorem ph_succ (n x : Nat) : ph n x < ph n (x + 1) := by
  have hp : 0 < 2 ^ n := Nat.two_pow_pos n
  have hx := parts n x
  have hF := Nat.mod_lt x hp
  generalize x / 2 ^ n = E at *
  generalize x % 2 ^ n = F at *
  subst hx
  by_cases hc : F + 1 < 2 ^ n
  · rw [Nat.add_assoc]
    by_cases hE : E = 0
    · rw [ph_low n E F hF hE, ph_low n E (F + 1) hc hE]; omega
    · rw [ph_high n E F hF (by omega), ph_high n E (F + 1) hc (by omega)]
      exact Nat.mul_lt_mul_of_pos_right (by omega) (Nat.two_pow_pos _)
  · have hs : E * 2 ^ n + F + 1 = (E + 1) * 2 ^ n + 0 := by rw [Nat.add_mul]; omega
    rw [hs, ph_high n (E + 1) 0 hp (by omega), Nat.zero_add, Nat.add_sub_cancel]
    by_cases hE : E = 0
    · rw [ph_low n E F hF hE, hE, Nat.pow_zero]; omega
    · rw [ph_high n E F hF (by omega)]
      obtain ⟨e, rfl⟩ : ∃ e, E = e + 1 := ⟨E - 1, by omega⟩
      rw [Nat.add_sub_cancel, Nat.pow_succ, ← Nat.mul_assoc, Nat.mul_right_comm]
      exact Nat.mul_lt_mul_of_pos_right (by omega) (Nat.two_pow_pos _)
theorem ph_lt (n : Nat) {x y : Nat} (h : x < y) : ph n x < ph n y := by
  induction y with
  | zero => omega
  | succ y ih =>
    by_cases hy : x = y
    · subst hy; exact ph_succ n x
    · exact Nat.lt_trans (ih (by omega)) (ph_succ n y)
theorem ph_le (n : Nat) {x y : Nat} (h : x ≤ y) : ph n x ≤ ph n y := by
  by_cases hy : x = y
  · subst hy; exact Nat.le_refl _
  · exact Nat.le_of_lt (ph_lt n (by omega))
/-- The one place under a number. -/
theorem ph_only (n D Z a b : Nat) (h1 : ph n a * D ≤ Z) (h2 : Z < ph n (a + 1) * D) (h3 : ph n b * D ≤ Z) (h4 : Z < ph n (b + 1) * D) : a = b := by
  rcases Nat.lt_trichotomy a b with h | h | h
  · have := Nat.mul_le_mul_right D (ph_le n (show a + 1 ≤ b by omega))
    omega
  · exact h
  · have := Nat.mul_le_mul_right D (ph_le n (show b + 1 ≤ a by omega))
    omega
/-- Which of the two neighbours. -/
def near (Z D low : Nat) : Nat := if Z - ph 23 low * D < ph 23 (low + 1) * D - Z ∨ (Z - ph 23 low * D = ph 23 (low + 1) * D - Z ∧ low % 2 = 0) then low else low + 1
/-- Rounding by a mask. -/
def rnd (m drop : Nat) : Nat := if 2 ^ (drop - 1) < m % 2 ^ drop ∨ (m % 2 ^ drop = 2 ^ (drop - 1) ∧ m / 2 ^ drop % 2 = 1) then m / 2 ^ drop + 1 else m / 2 ^ drop
theorem cmp_scale (rest half p : Nat) (hp : 0 < p) (hr : rest < 2 * half) (Z A B : Nat) (hA : Z - A = rest * p) (hB : B - Z = (2 * half - rest) * p) :
    (Z - A < B - Z ↔ rest < half) ∧ (Z - A = B - Z ↔ rest = half) := by
  rw [hA, hB]
  constructor
  · rw [Nat.mul_lt_mul_right hp]; omega
  · constructor
    · intro h
      have := Nat.eq_of_mul_eq_mul_right hp h
      omega
    · intro h
      congr 1
      omega
/-- Rounding by a mask gives the nearer neighbour: at a place low whose neighbours lie 2^drop units of 2^k apart. -/
theorem rnd_near (m drop k D low c : Nat) (hd : 1 ≤ drop) (hc : c % 2 = 0) (hlow : low = m / 2 ^ drop + c) (h1 : ph 23 low * D = m / 2 ^ drop * 2 ^ drop * 2 ^ k) (h2 : ph 23 (low + 1) * D = (m / 2 ^ drop + 1) * 2 ^ drop * 2 ^ k) :
    near (m * 2 ^ k) D low = rnd m drop + c := by
  have hp : 0 < 2 ^ k := Nat.two_pow_pos k
  obtain ⟨d, rfl⟩ : ∃ d, drop = d + 1 := ⟨drop - 1, by omega⟩
  have hh : 2 ^ (d + 1) = 2 * 2 ^ d := by rw [Nat.pow_succ]; omega
  have hm := Nat.div_add_mod m (2 ^ (d + 1))
  have hr : m % 2 ^ (d + 1) < 2 ^ (d + 1) := Nat.mod_lt _ (Nat.two_pow_pos _)
  have hA : m * 2 ^ k - ph 23 low * D = m % 2 ^ (d + 1) * 2 ^ k := by
    rw [h1, ← Nat.sub_mul]
    congr 1
    rw [Nat.mul_comm (m / 2 ^ (d + 1))]
    omega
  have hB : ph 23 (low + 1) * D - m * 2 ^ k = (2 * 2 ^ d - m % 2 ^ (d + 1)) * 2 ^ k := by
    rw [h2, ← Nat.sub_mul]
    congr 1
    rw [Nat.add_mul, Nat.mul_comm (m / 2 ^ (d + 1)), Nat.one_mul]
    omega
  obtain ⟨c1, c2⟩ := cmp_scale (m % 2 ^ (d + 1)) (2 ^ d) (2 ^ k) hp (by omega) _ _ _ hA hB
  unfold near rnd
  rw [Nat.add_sub_cancel]
  by_cases b1 : m % 2 ^ (d + 1) < 2 ^ d
  · rw [if_pos (.inl (c1.2 b1)), if_neg (by omega)]
    exact hlow
  · by_cases b2 : m % 2 ^ (d + 1) = 2 ^ d
    · by_cases b3 : m / 2 ^ (d + 1) % 2 = 1
      · rw [if_neg (by rw [c1, c2]; omega), if_pos (.inr ⟨b2, b3⟩)]
        omega
      · rw [if_pos (.inr ⟨c2.2 b2, by omega⟩), if_neg (by omega)]
        exact hlow
    · rw [if_neg (by rw [c1, c2]; omega), if_pos (.inl (by omega))]
      omega
end Go.Proofs.Ytdlphcfmbhhfgaa.Rn
