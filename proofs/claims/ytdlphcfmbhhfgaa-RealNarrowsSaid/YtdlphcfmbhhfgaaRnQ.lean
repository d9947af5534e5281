/-
  PROVED HERE: the document's RealWiden at bits without a sign, as a number and its units. Conditions: as each theorem states.
-/
import Derived.Test.YtdlphcfmbhhfgaaRnD
import Derived.Test.YtdlphcfmbhhfgaaRnI
namespace Go.Proofs.Ytdlphcfmbhhfgaa.Rn
open Go.RowKit Real
/-- The wider form of 32 bits without a sign. -/
def wd (x : Nat) : Nat := (wid (neg32 (x : Int)) (exp32 (x : Int)) (frac32 (x : Int))).toNat
theorem wd_units (x : Nat) (hx : x < 255 * 2 ^ 23) : wd x < 2047 * 2 ^ 52 ∧ ph 52 (wd x) = ph 23 x * 2 ^ 925 := by
  obtain ⟨w, h1, h2, h3⟩ := wid_ph (2 ^ 925) hD925 x hx
  unfold wd
  rw [h1, Int.toNat_natCast]
  exact ⟨h2, h3⟩
theorem wd_lt (x : Nat) (hx : x ≤ 255 * 2 ^ 23) : wd x < 9223372036854775808 := by
  by_cases h : x < 255 * 2 ^ 23
  · have := (wd_units x h).1
    omega
  · obtain rfl : x = 2139095040 := by omega
    decide
theorem docWiden_any (x : Nat) (hx : x ≤ 255 * 2 ^ 23) (W : World) :
    Calls Try.prog 11 #[.int .u32 (x : Int)] W fun e w' => e = .returned (.int .u64 ((wd x : Nat) : Int)) ∧ Below W.heap.size W w' := by
  have hw : ((wd x : Nat) : Int) = wid (neg32 (x : Int)) (exp32 (x : Int)) (frac32 (x : Int)) := by
    by_cases h : x < 255 * 2 ^ 23
    · obtain ⟨w, h1, _, _⟩ := wid_ph (2 ^ 925) hD925 x h
      unfold wd
      rw [h1, Int.toNat_natCast]
    · obtain rfl : x = 2139095040 := by omega
      decide
  rw [hw]
  have b0 : (0 : Int) ≤ (x : Int) := by omega
  have b1 : (x : Int) ≤ 4294967295 := by omega
  obtain ⟨he0, he1⟩ := exp32_bd (x : Int)
  obtain ⟨hf0, hf1⟩ := frac32_bd (x : Int)
  by_cases h1 : exp32 (x : Int) = 255
  · exact docWiden_top _ b0 b1 W h1
  by_cases h2 : exp32 (x : Int) = 0
  · by_cases h3 : frac32 (x : Int) = 0
    · exact docWiden_zero _ b0 b1 W h2 h3
    · exact docWiden_tiny _ b0 b1 W h2 (by omega)
  · exact docWiden_normal _ b0 b1 W (by omega) h1
/-- What halving has found lies under the number, the next one above it. -/
theorem halved (k low : Nat) (hk : k < 1151 * 2 ^ 52) (hl : low < 255 * 2 ^ 23) (h1 : wd low ≤ k) (h2 : low + 1 < 255 * 2 ^ 23 → k < wd (low + 1)) :
    ph 23 low * 2 ^ 925 ≤ ph 52 k ∧ ph 52 k < ph 23 (low + 1) * 2 ^ 925 := by
  obtain ⟨_, u1⟩ := wd_units low hl
  refine ⟨u1 ▸ ph_le 52 h1, ?_⟩
  by_cases c : low + 1 < 255 * 2 ^ 23
  · obtain ⟨_, u2⟩ := wd_units (low + 1) c
    exact u2 ▸ ph_lt 52 (h2 c)
  · have hlo : low + 1 = 255 * 2 ^ 23 := by omega
    rw [hlo]
    have e1 := ph_hi 23 255 254 rfl
    have e2 := ph_hi 52 1151 1150 rfl
    have e3 := pow_eq5 23 254 925 52 1150 rfl
    rw [e1, e3, ← e2]
    exact ph_lt 52 hk
end Go.Proofs.Ytdlphcfmbhhfgaa.Rn
