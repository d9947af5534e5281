/-
  PROVED HERE: numbers of 34 words of 64 bits: a word put in, their difference word by word, which one is less, in plain Lean. Conditions: as each theorem states.
-/
import Derived.Test.YtdlphcfmbhhfgaaRnA
namespace Go.Proofs.Ytdlphcfmbhhfgaa.Rn
def B64 : Nat := 18446744073709551616
theorem b64_pow : B64 = 2 ^ 64 := by decide
/-- Word j of a number. -/
def wo (n j : Nat) : Nat := n / B64 ^ j % B64
theorem b64_pos (j : Nat) : 0 < B64 ^ j := Nat.pow_pos (by decide)
theorem wo_lt (n j : Nat) : wo n j < B64 := Nat.mod_lt _ (by decide)
theorem wo_mod (n j : Nat) : n % B64 ^ (j + 1) = wo n j * B64 ^ j + n % B64 ^ j := by
  unfold wo
  rw [Nat.pow_succ, Nat.mod_mul, Nat.mul_comm (n / B64 ^ j % B64)]
  omega
theorem wo_div (n j : Nat) : n / B64 ^ j = n / B64 ^ (j + 1) * B64 + wo n j := by
  unfold wo
  rw [Nat.pow_succ, ← Nat.div_div_eq_div_mul]
  have := Nat.div_add_mod (n / B64 ^ j) B64
  rw [Nat.mul_comm] at this
  omega
/-- The words of a small number put up by e bits. -/
theorem wo_shift (m e j : Nat) (hm : m < 2 ^ 53) : wo (m * 2 ^ e) j = if j = e / 64 then m * 2 ^ (e % 64) % B64 else if j = e / 64 + 1 then m * 2 ^ (e % 64) / B64 else 0 := by
  have he : m * 2 ^ e = m * 2 ^ (e % 64) * B64 ^ (e / 64) := by
    rw [b64_pow, ← Nat.pow_mul, Nat.mul_assoc, ← Nat.pow_add]
    congr 2
    have := Nat.div_add_mod e 64
    omega
  have hs : e % 64 < 64 := Nat.mod_lt _ (by decide)
  have hM : m * 2 ^ (e % 64) < B64 * B64 := by
    have h1 : m * 2 ^ (e % 64) ≤ m * 2 ^ 64 := Nat.mul_le_mul_left _ (Nat.pow_le_pow_right (by decide) (by omega))
    have h2 : m * 2 ^ 64 < 2 ^ 53 * 2 ^ 64 := Nat.mul_lt_mul_of_pos_right hm (by decide)
    have h3 : (2 : Nat) ^ 53 * 2 ^ 64 < B64 * B64 := by decide
    omega
  rw [he]
  generalize m * 2 ^ (e % 64) = M at *
  generalize e / 64 = i at *
  unfold wo
  by_cases h1 : j = i
  · subst h1
    rw [if_pos rfl, Nat.mul_div_cancel _ (b64_pos j)]
  · rw [if_neg h1]
    by_cases h2 : j = i + 1
    · subst h2
      rw [if_pos rfl, Nat.pow_succ, Nat.mul_comm M, Nat.mul_div_mul_left _ _ (b64_pos i)]
      exact Nat.mod_eq_of_lt (by rw [Nat.div_lt_iff_lt_mul (by decide)]; exact hM)
    · rw [if_neg h2]
      by_cases h3 : j < i
      · obtain ⟨d, rfl⟩ : ∃ d, i = j + 1 + d := ⟨i - (j + 1), by omega⟩
        rw [Nat.pow_add, Nat.pow_succ, show M * (B64 ^ j * B64 * B64 ^ d) = M * B64 ^ d * B64 * B64 ^ j by
          rw [Nat.mul_assoc (B64 ^ j), Nat.mul_comm (B64 ^ j), ← Nat.mul_assoc M, Nat.mul_comm B64, ← Nat.mul_assoc M], Nat.mul_div_cancel _ (b64_pos j)]
        exact Nat.mul_mod_left _ _
      · obtain ⟨d, rfl⟩ : ∃ d, j = i + (2 + d) := ⟨j - (i + 2), by omega⟩
        rw [Nat.pow_add, Nat.mul_comm M, Nat.mul_div_mul_left _ _ (b64_pos i), Nat.pow_add]
        rw [Nat.div_eq_of_lt (Nat.lt_of_lt_of_le hM (by
          have h5 : B64 ^ 2 = B64 * B64 := by decide
          rw [h5]
          exact Nat.le_mul_of_pos_right _ (b64_pos d)))]
        rfl
/-- The borrow behind j words. -/
def bw (a b j : Nat) : Nat := if a % B64 ^ j < b % B64 ^ j then 1 else 0
theorem bw_le (a b j : Nat) : bw a b j ≤ 1 := by unfold bw; split <;> omega
theorem bw_zero (a b : Nat) : bw a b 0 = 0 := by unfold bw; rw [Nat.pow_zero, Nat.mod_one, Nat.mod_one]; rfl
/-- One step of the difference. -/
theorem sub_step (a b j : Nat) (h : b ≤ a) : bw a b (j + 1) = (if wo a j < wo b j + bw a b j then 1 else 0) ∧ wo (a - b) j = (wo a j + B64 - wo b j - bw a b j) % B64 := by
  have ha := wo_mod a j
  have hb := wo_mod b j
  have la := Nat.mod_lt a (b64_pos j)
  have lb := Nat.mod_lt b (b64_pos j)
  have wa := wo_lt a j
  have wb := wo_lt b j
  have e1 : bw a b (j + 1) = (if wo a j < wo b j + bw a b j then 1 else 0) := by
    unfold bw
    rw [ha, hb]
    clear ha hb
    generalize a % B64 ^ j = ra at *
    generalize b % B64 ^ j = rb at *
    generalize wo a j = x at *
    generalize wo b j = y at *
    by_cases c : ra < rb
    · rw [if_pos c]
      by_cases d : x < y + 1
      · rw [if_pos d, if_pos]
        have := Nat.mul_le_mul_right (B64 ^ j) (show x ≤ y by omega)
        omega
      · rw [if_neg d, if_neg]
        have := Nat.mul_le_mul_right (B64 ^ j) (show y + 1 ≤ x by omega)
        rw [Nat.add_mul, Nat.one_mul] at this
        omega
    · rw [if_neg c]
      by_cases d : x < y + 0
      · rw [if_pos d, if_pos]
        have := Nat.mul_le_mul_right (B64 ^ j) (show x + 1 ≤ y by omega)
        rw [Nat.add_mul, Nat.one_mul] at this
        omega
      · rw [if_neg d, if_neg]
        have := Nat.mul_le_mul_right (B64 ^ j) (show y ≤ x by omega)
        omega
  refine ⟨e1, ?_⟩
  -- the quotients
  have q : ∀ i, (a - b) / B64 ^ i + b / B64 ^ i + bw a b i = a / B64 ^ i := fun i => by
    have hi := b64_pos i
    have da := Nat.div_add_mod a (B64 ^ i)
    have db := Nat.div_add_mod b (B64 ^ i)
    have ma := Nat.mod_lt a hi
    have mb := Nat.mod_lt b hi
    unfold bw
    have key : ∀ x r : Nat, r < B64 ^ i → a - b = B64 ^ i * x + r → (a - b) / B64 ^ i = x := fun x r hr e => by
      rw [e, Nat.mul_add_div hi, Nat.div_eq_of_lt hr, Nat.add_zero]
    have hdl : b / B64 ^ i ≤ a / B64 ^ i := Nat.div_le_div_right h
    clear ha hb la lb wa wb e1
    generalize a % B64 ^ i = ra at *
    generalize b % B64 ^ i = rb at *
    generalize a / B64 ^ i = qa at *
    generalize b / B64 ^ i = qb at *
    generalize B64 ^ i = P at *
    by_cases c : ra < rb
    · rw [if_pos c]
      have hq : qb < qa := by
        rcases Nat.lt_or_ge (qb) (qa) with h1 | h1
        · exact h1
        · have := Nat.mul_le_mul_left (P) h1
          omega
      obtain ⟨x, hx⟩ : ∃ x, qa = qb + x + 1 := ⟨qa - qb - 1, by omega⟩
      rw [key x (P + ra - rb) (by omega) (by
        rw [hx, Nat.mul_add, Nat.mul_add, Nat.mul_one] at da
        omega)]
      omega
    · rw [if_neg c]
      have hq : qb ≤ qa := hdl
      obtain ⟨x, hx⟩ : ∃ x, qa = qb + x := ⟨qa - qb, by omega⟩
      rw [key x (ra - rb) (by omega) (by
        rw [hx, Nat.mul_add] at da
        omega)]
      omega
  have q0 := q j
  have d1 := wo_div a j
  have d2 := wo_div b j
  have d3 := wo_div (a - b) j
  have w3 := wo_lt (a - b) j
  have q1 := q (j + 1)
  rw [e1] at q1
  have hbw := bw_le a b j
  generalize a / B64 ^ (j + 1) = A at *
  generalize b / B64 ^ (j + 1) = B at *
  generalize (a - b) / B64 ^ (j + 1) = C at *
  generalize a / B64 ^ j = A0 at *
  generalize b / B64 ^ j = B0 at *
  generalize (a - b) / B64 ^ j = C0 at *
  generalize bw a b j = w at *
  generalize wo a j = x at *
  generalize wo b j = y at *
  generalize wo (a - b) j = z at *
  have hB : B64 = 18446744073709551616 := rfl
  simp only [hB] at *
  clear ha hb la lb h
  by_cases hc : x < y + w
  · rw [if_pos hc] at q1
    omega
  · rw [if_neg hc] at q1
    omega
/-- Words tell numbers apart: from the greatest one down. -/
theorem cmp_step (p q : Nat) (j : Nat) (h : ∀ i, j < i → i < 34 → wo p i = wo q i) (hp : p < B64 ^ 34) (hq : q < B64 ^ 34) (hj : j < 34) :
    p / B64 ^ (j + 1) = q / B64 ^ (j + 1) := by
  have key : ∀ d, d ≤ 33 - j → p / B64 ^ (34 - d) = q / B64 ^ (34 - d) := fun d => by
    induction d with
    | zero => intro _; rw [Nat.div_eq_of_lt hp, Nat.div_eq_of_lt hq]
    | succ d ih =>
      intro hd
      have h1 := ih (by omega)
      have d1 := wo_div p (34 - (d + 1))
      have d2 := wo_div q (34 - (d + 1))
      have e := h (34 - (d + 1)) (by omega) (by omega)
      rw [show 34 - (d + 1) + 1 = 34 - d by omega] at d1 d2
      rw [d1, d2, h1, e]
  have := key (33 - j) (Nat.le_refl _)
  rwa [show 34 - (33 - j) = j + 1 by omega] at this
theorem cmp_lt (p q j : Nat) (h : p / B64 ^ (j + 1) = q / B64 ^ (j + 1)) (hw : wo p j < wo q j) : p < q := by
  have d1 := wo_div p j
  have d2 := wo_div q j
  rw [h] at d1
  have hlt : p / B64 ^ j < q / B64 ^ j := by omega
  rcases Nat.lt_or_ge p q with h1 | h1
  · exact h1
  · have := Nat.div_le_div_right (c := B64 ^ j) h1
    omega
theorem cmp_eq (p q : Nat) (h : ∀ i, i < 34 → wo p i = wo q i) (hp : p < B64 ^ 34) (hq : q < B64 ^ 34) : p = q := by
  have h1 := cmp_step p q 0 (fun i _ hi => h i hi) hp hq (by omega)
  have d1 := wo_div p 0
  have d2 := wo_div q 0
  rw [Nat.pow_zero, Nat.div_one] at d1 d2
  rw [h1, h 0 (by omega), ← d2] at d1
  exact d1
end Go.Proofs.Ytdlphcfmbhhfgaa.Rn
