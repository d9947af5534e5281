/-
  PROVED HERE: the contract of real.Narrow. Conditions: as each theorem states.
-/
import Derived.Test.YtdlphcfmbhhfgaaRnO
namespace Go.Proofs.Ytdlphcfmbhhfgaa.Rn
open Go.RowKit Real
theorem wrap_u64 (x : Nat) (h : x < 18446744073709551616) : IntKind.u64.wrap (x : Int) = (x : Int) := by
  have e : ∀ x : Int, IntKind.u64.wrap x = x % 18446744073709551616 := fun x => by simp [IntKind.wrap, IntKind.bits, IntKind.signed]
  rw [e]; omega
theorem or_top64 (f : Nat) (hf : f < 4503599627370496) : bits .or .u64 (f : Int) 4503599627370496 = ((f + 4503599627370496 : Nat) : Int) := by
  show IntKind.u64.wrap ((BitVec.ofInt 64 (f : Int) ||| BitVec.ofInt 64 (4503599627370496 : Int)).toNat : Nat) = _
  have e1 : ((f : Int) % ((2 ^ 64 : Nat) : Int)).toNat = f := by omega
  have e2 : ((4503599627370496 : Int) % ((2 ^ 64 : Nat) : Int)).toNat = 2 ^ 52 * 1 := by decide
  rw [BitVec.toNat_or, BitVec.toNat_ofInt, BitVec.toNat_ofInt, e1, e2, Nat.or_comm, ← Nat.two_pow_add_eq_or_of_lt (i := 52) hf 1]
  rw [wrap_u64 _ (by omega)]
  congr 1
  omega
theorem or_sign (s x : Nat) (hs : s = 0 ∨ s = 2147483648) (hx : x < 2147483648) : bits .or .u32 (s : Int) (x : Int) = ((s + x : Nat) : Int) := by
  show IntKind.u32.wrap ((BitVec.ofInt 32 (s : Int) ||| BitVec.ofInt 32 (x : Int)).toNat : Nat) = _
  have e : ∀ x : Int, IntKind.u32.wrap x = x % 4294967296 := fun x => by simp [IntKind.wrap, IntKind.bits, IntKind.signed]
  have e1 : ((s : Int) % ((2 ^ 32 : Nat) : Int)).toNat = s := by omega
  have e2 : ((x : Int) % ((2 ^ 32 : Nat) : Int)).toNat = x := by omega
  rw [BitVec.toNat_or, BitVec.toNat_ofInt, BitVec.toNat_ofInt, e1, e2, e]
  rcases hs with rfl | rfl
  · rw [Nat.zero_or]; omega
  · rw [show (2147483648 : Nat) = 2 ^ 31 * 1 from rfl, ← Nat.two_pow_add_eq_or_of_lt (i := 31) hx 1]
    omega
theorem and_low (x : Nat) (k : Nat) (hx : x < 18446744073709551616) (hk : k ≤ 63) : bits .and .u64 (x : Int) (((2 ^ k - 1 : Nat)) : Int) = ((x % 2 ^ k : Nat) : Int) := by
  rw [and_mask (x : Int) k (by omega) (by omega) hk, Int.natCast_emod]
theorem rnd_up (m d : Nat) (h : 2 ^ (d - 1) < m % 2 ^ d ∨ (m % 2 ^ d = 2 ^ (d - 1) ∧ m / 2 ^ d % 2 = 1)) : rnd m d = m / 2 ^ d + 1 := by unfold rnd; rw [if_pos h]
theorem rnd_down (m d : Nat) (h : ¬ (2 ^ (d - 1) < m % 2 ^ d ∨ (m % 2 ^ d = 2 ^ (d - 1) ∧ m / 2 ^ d % 2 = 1))) : rnd m d = m / 2 ^ d := by unfold rnd; rw [if_neg h]
def NaP (v : Int) (W : World) (x : Ending) (w' : World) : Prop := x = .returned (.int .u32 v) ∧ Below W.heap.size W w'
theorem narrow_fin (b s k : Nat) (hb : b < 18446744073709551616) (hs : s = b / 9223372036854775808 * 2147483648) (hk : k = b % 9223372036854775808) (hfin : k / 2 ^ 52 ≠ 2047) (W : World) :
    Calls Try.prog 4 #[.int .u64 (b : Int)] W (NaP ((s + nar k : Nat) : Int) W) := by
  have hN : neg64 (b : Int) = neg64 (b : Int) := rfl
  have hsI : (b : Int) / 9223372036854775808 * 2147483648 = ((s : Nat) : Int) := by omega
  have hs2 : s = 0 ∨ s = 2147483648 := by omega
  have he : exp64 (b : Int) = ((k / 2 ^ 52 : Nat) : Int) := by unfold exp64; omega
  have hf : frac64 (b : Int) = ((k % 2 ^ 52 : Nat) : Int) := by unfold frac64; omega
  have he2 : k / 2 ^ 52 < 2048 := by omega
  have hF : k % 2 ^ 52 < 4503599627370496 := by omega
  have i2 : (((k / 2 ^ 52 : Nat) : Int) == 2047) = false := by rw [beq_eq_false_iff_ne]; omega
  have hor : bits .or .u64 (frac64 (b : Int)) 4503599627370496 = ((k % 2 ^ 52 + 2 ^ 52 : Nat) : Int) := by rw [hf]; exact or_top64 _ hF
  unfold nar
  generalize k / 2 ^ 52 = e at *
  have hm1 : 4503599627370496 ≤ k % 2 ^ 52 + 2 ^ 52 := by omega
  have hm2 : k % 2 ^ 52 + 2 ^ 52 < 9007199254740992 := by omega
  generalize k % 2 ^ 52 + 2 ^ 52 = m at *
  clear hk
  by_cases h1 : e < 800
  · rw [if_pos (by omega), Nat.add_zero]
    exact narrow_small b e _ _ hb hN hsI he h1 W
  by_cases h2 : e < 866
  · rw [if_pos h2, Nat.add_zero]
    exact narrow_tiny b e _ _ hb hN hsI he (by omega) h2 W
  rw [if_neg h2]
  have i1 : ¬ (e : Int) < 800 := by omega
  have hodd : ∀ q : Nat, q < 16777216 → bits .and .u64 (q : Int) 1 = ((q % 2 : Nat) : Int) := fun q hq => and_low q 1 (by omega) (by decide)
  by_cases h3 : e ≤ 896
  · rw [if_pos h3]
    obtain ⟨c, hc⟩ : ∃ c, 926 - e = c + 1 := ⟨925 - e, by omega⟩
    rw [hc]
    have hp1 : (2 : Nat) ^ (c + 1) = 2 * 2 ^ c := by rw [Nat.pow_succ]; omega
    have hq : m / 2 ^ (c + 1) < 16777216 := by
      rw [Nat.div_lt_iff_lt_mul (Nat.two_pow_pos _)]
      have : 2 ^ 30 ≤ 2 ^ (c + 1) := Nat.pow_le_pow_right (by decide) (by omega)
      omega
    have hcl2 : (2 : Nat) ^ (c + 1) < 2 ^ 61 := Nat.pow_lt_pow_right (by decide) (by omega)
    have hcl : (2 : Nat) ^ c < 2 ^ 60 := Nat.pow_lt_pow_right (by decide) (by omega)
    have k1 : IntKind.u64.wrap (2 ^ c) = (((2 : Nat) ^ c : Nat) : Int) := by
      have := wrap_u64 (2 ^ c) (by omega)
      rw [Int.natCast_pow] at this ⊢
      exact this
    have k2 : ((m : Nat) : Int) / 2 ^ (c + 1) = ((m / 2 ^ (c + 1) : Nat) : Int) := by rw [Int.natCast_ediv, Int.natCast_pow]; first | rfl | done
    have k3 : bits .and .u64 ((m : Nat) : Int) (IntKind.u64.wrap (IntKind.u64.wrap ((((2 : Nat) ^ c : Nat) : Int) * 2) - 1)) = ((m % 2 ^ (c + 1) : Nat) : Int) := by
      have e1 : IntKind.u64.wrap ((((2 : Nat) ^ c : Nat) : Int) * 2) = ((2 ^ (c + 1) : Nat) : Int) := by
        have := wrap_u64 (2 ^ (c + 1)) (by omega)
        rw [← this]
        congr 1 <;> omega
      have e2 : IntKind.u64.wrap (((2 ^ (c + 1) : Nat) : Int) - 1) = ((2 ^ (c + 1) - 1 : Nat) : Int) := by
        have := wrap_u64 (2 ^ (c + 1) - 1) (by omega)
        rw [← this]
        congr 1
        have := Nat.two_pow_pos (c + 1)
        omega
      rw [e1, e2]
      exact and_low m (c + 1) (by omega) (by omega)
    have k4 := hodd _ hq
    have i3 : (e : Int) - 1023 + 127 = -((896 - e : Nat) : Int) := by omega
    have i4 : (29 : Int) + (1 + ((896 - e : Nat) : Int)) = ((c + 1 : Nat) : Int) := by omega
    have i5 : ¬ (60 : Int) < ((c + 1 : Nat) : Int) := by omega
    have i6 : ((c + 1 : Nat) : Int) - 1 = (c : Int) := by omega
    have hup := rnd_up m (c + 1)
    have hdn := rnd_down m (c + 1)
    rw [Nat.add_sub_cancel] at hup hdn
    rw [hp1] at hcl2
    generalize m / 2 ^ (c + 1) = q at *
    generalize m % 2 ^ (c + 1) = r at *
    generalize rnd m (c + 1) = v at *
    have fin : ∀ vi : Int, vi = (v : Int) → v < 2147483648 → ∀ x w', (x = .returned (.int .u32 (bits .or .u32 (s : Int) vi)) ∧ Below W.heap.size W w') → NaP ((s + v : Nat) : Int) W x w' := fun vi he hv x w' h => ⟨by rw [h.1, he, or_sign s v hs2 hv], h.2⟩
    generalize (2 : Nat) ^ c = h at *
    clear hp1 hcl2
    by_cases g1 : h < r
    · have hv := hup (.inl g1)
      exact (low_gt b e (c + 1) c (896 - e) _ _ _ _ _ _ _ hb hN hsI he hor i1 i2 i3 i4 i5 i6 (by omega) (by omega) k1 k2 k3 k4 (by omega) (by omega) (by omega) W).mono (fin _ (by omega) (by omega))
    · by_cases g2 : r = h
      · have g2' : (((r : Nat) : Int) == ((h : Nat) : Int)) = true := by rw [beq_iff_eq, g2]
        by_cases g3 : q % 2 = 1
        · have hv := hup (.inr ⟨g2, g3⟩)
          exact (low_odd b e (c + 1) c (896 - e) _ _ _ _ _ _ _ hb hN hsI he hor i1 i2 i3 i4 i5 i6 (by omega) (by omega) k1 k2 k3 k4 (by omega) (by omega) (by omega) g2' (by rw [g3]; rfl) W).mono (fin _ (by omega) (by omega))
        · have hv := hdn (by omega)
          exact (low_even b e (c + 1) c (896 - e) _ _ _ _ _ _ _ hb hN hsI he hor i1 i2 i3 i4 i5 i6 (by omega) (by omega) k1 k2 k3 k4 (by omega) (by omega) (by omega) g2' (by rw [beq_eq_false_iff_ne]; omega) W).mono (fin _ (by omega) (by omega))
      · have hv := hdn (by omega)
        exact (low_lt b e (c + 1) c (896 - e) _ _ _ _ _ _ _ hb hN hsI he hor i1 i2 i3 i4 i5 i6 (by omega) (by omega) k1 k2 k3 k4 (by omega) (by omega) (by omega) (by rw [beq_eq_false_iff_ne]; omega) W).mono (fin _ (by omega) (by omega))
  · rw [if_neg h3]
    have e28 : (2 : Nat) ^ (29 - 1) = 268435456 := by decide
    have e29 : (2 : Nat) ^ 29 = 536870912 := by decide
    have e30 : ((536870912 - 1 : Nat) : Int) = 536870911 := by decide
    have e23 : (2 : Nat) ^ 23 = 8388608 := by decide
    have ha := and_low m 29 (by omega) (by decide)
    have hup := rnd_up m 29
    have hdn := rnd_down m 29
    rw [e28, e29] at hup hdn
    rw [e29, e30] at ha
    rw [e23]
    clear e28 e29 e30 e23
    have hq : m / 536870912 < 16777216 := by omega
    have k4 := hodd _ hq
    have k2 : ((m : Nat) : Int) / 536870912 = ((m / 536870912 : Nat) : Int) := by omega
    have hmul : 255 * 8388608 = 2139095040 := by decide
    rw [hmul]
    clear hmul
    have i3 : (e : Int) - 1023 + 127 = ((e - 896 : Nat) : Int) := by omega
    have i5 : ((e - 896 : Nat) : Int) - 1 = ((e - 897 : Nat) : Int) := by omega
    have i4 : (0 : Int) < ((e - 896 : Nat) : Int) := by omega
    have i6 : ((e - 897 : Nat) : Int) ≤ 1149 := by omega
    have hm3 : m < 9007199254740992 := hm2
    generalize m / 536870912 = q at *
    generalize m % 536870912 = r at *
    generalize rnd m 29 = v at *
    obtain ⟨z, hz⟩ : ∃ z, e - 897 = z := ⟨_, rfl⟩
    rw [hz] at i5 i6 ⊢
    obtain ⟨o, ho⟩ : ∃ o, min (v + z * 8388608) 2139095040 = o := ⟨_, rfl⟩
    rw [ho]
    have hob : o < 2147483648 := by rw [← ho]; exact Nat.lt_of_le_of_lt (Nat.min_le_right _ _) (by decide)
    have fin : ∀ (u : Nat) (vi : Int), vi = (u : Int) → o = u → bits .or .u32 (s : Int) vi = ((s + o : Nat) : Int) := fun u vi he hu => by rw [he, ← hu, or_sign s o hs2 hob]
    have eup : ((2139095040 : Nat) : Int) = 2139095040 := by decide
    have ein : ∀ a b : Nat, (a : Int) + (b : Int) * 8388608 = ((a + b * 8388608 : Nat) : Int) := fun a b => by omega
    have ein1 : ∀ a b : Nat, (a : Int) + 1 + (b : Int) * 8388608 = ((a + 1 + b * 8388608 : Nat) : Int) := fun a b => by omega
    by_cases g1 : 268435456 < r
    · have hr := hup (.inl g1)
      clear hup hdn
      by_cases c1 : 2139095040 ≤ q + 1 + z * 8388608
      · have hX := high_gt_up b e _ _ _ _ _ _ _ _ hb hN hsI he hor i1 i2 i3 i4 i5 i6 (by omega) k2 ha k4 (by omega) (by omega) (by omega) (by omega) W
        refine hX.mono (fun x w' h => ⟨?_, h.2⟩)
        rw [h.1, fin 2139095040 _ eup.symm (by rw [← ho, hr]; exact Nat.min_eq_right c1)]
      · have hX := high_gt_in b e _ _ _ _ _ _ _ _ hb hN hsI he hor i1 i2 i3 i4 i5 i6 (by omega) k2 ha k4 (by omega) (by omega) (by omega) (by omega) W
        refine hX.mono (fun x w' h => ⟨?_, h.2⟩)
        rw [h.1, fin (q + 1 + z * 8388608) _ (ein1 q z) (by rw [← ho, hr]; exact Nat.min_eq_left (Nat.le_of_lt (Nat.lt_of_not_le c1)))]
    · by_cases g2 : r = 268435456
      · have g2' : (((r : Nat) : Int) == 268435456) = true := by rw [beq_iff_eq]; omega
        by_cases g3 : q % 2 = 1
        · have hr := hup (.inr ⟨g2, g3⟩)
          clear hup hdn
          by_cases c1 : 2139095040 ≤ q + 1 + z * 8388608
          · have hX := high_odd_up b e _ _ _ _ _ _ _ _ hb hN hsI he hor i1 i2 i3 i4 i5 i6 (by omega) k2 ha k4 (by omega) (by omega) (by omega) g2' (by rw [g3]; rfl) (by omega) W
            refine hX.mono (fun x w' h => ⟨?_, h.2⟩)
            rw [h.1, fin 2139095040 _ eup.symm (by rw [← ho, hr]; exact Nat.min_eq_right c1)]
          · have hX := high_odd_in b e _ _ _ _ _ _ _ _ hb hN hsI he hor i1 i2 i3 i4 i5 i6 (by omega) k2 ha k4 (by omega) (by omega) (by omega) g2' (by rw [g3]; rfl) (by omega) W
            refine hX.mono (fun x w' h => ⟨?_, h.2⟩)
            rw [h.1, fin (q + 1 + z * 8388608) _ (ein1 q z) (by rw [← ho, hr]; exact Nat.min_eq_left (Nat.le_of_lt (Nat.lt_of_not_le c1)))]
        · have hr := hdn (by omega)
          clear hup hdn
          have g3' : (((q % 2 : Nat) : Int) == 1) = false := by rw [beq_eq_false_iff_ne]; omega
          by_cases c1 : 2139095040 ≤ q + z * 8388608
          · have hX := high_even_up b e _ _ _ _ _ _ _ _ hb hN hsI he hor i1 i2 i3 i4 i5 i6 (by omega) k2 ha k4 (by omega) (by omega) (by omega) g2' g3' (by omega) W
            refine hX.mono (fun x w' h => ⟨?_, h.2⟩)
            rw [h.1, fin 2139095040 _ eup.symm (by rw [← ho, hr]; exact Nat.min_eq_right c1)]
          · have hX := high_even_in b e _ _ _ _ _ _ _ _ hb hN hsI he hor i1 i2 i3 i4 i5 i6 (by omega) k2 ha k4 (by omega) (by omega) (by omega) g2' g3' (by omega) W
            refine hX.mono (fun x w' h => ⟨?_, h.2⟩)
            rw [h.1, fin (q + z * 8388608) _ (ein q z) (by rw [← ho, hr]; exact Nat.min_eq_left (Nat.le_of_lt (Nat.lt_of_not_le c1)))]
      · have hr := hdn (by omega)
        clear hup hdn
        have g2' : (((r : Nat) : Int) == 268435456) = false := by rw [beq_eq_false_iff_ne]; omega
        by_cases c1 : 2139095040 ≤ q + z * 8388608
        · have hX := high_lt_up b e _ _ _ _ _ _ _ _ hb hN hsI he hor i1 i2 i3 i4 i5 i6 (by omega) k2 ha k4 (by omega) (by omega) (by omega) g2' (by omega) W
          refine hX.mono (fun x w' h => ⟨?_, h.2⟩)
          rw [h.1, fin 2139095040 _ eup.symm (by rw [← ho, hr]; exact Nat.min_eq_right c1)]
        · have hX := high_lt_in b e _ _ _ _ _ _ _ _ hb hN hsI he hor i1 i2 i3 i4 i5 i6 (by omega) k2 ha k4 (by omega) (by omega) (by omega) g2' (by omega) W
          refine hX.mono (fun x w' h => ⟨?_, h.2⟩)
          rw [h.1, fin (q + z * 8388608) _ (ein q z) (by rw [← ho, hr]; exact Nat.min_eq_left (Nat.le_of_lt (Nat.lt_of_not_le c1)))]
end Go.Proofs.Ytdlphcfmbhhfgaa.Rn
