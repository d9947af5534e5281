/-
  PROVED HERE: the plain law behind BitsPuts: a byte with one bit set, a text's bytes behind k of them, bit by bit; nothing of the Go text. Conditions: as each theorem states.
-/
import Derived.Test.YtebjccenlfhilaaDoorGetA
namespace Go.Proofs.YtebjccenlfhilaaDoor.Bit
open Go.RowKit

/-- A byte whose bit b is x. -/
def setB (c b x : Nat) : Nat := c - c / 2 ^ b % 2 * 2 ^ b + x * 2 ^ b
theorem setB_all : ∀ (c : Fin 256) (b b' : Fin 8) (x : Fin 2), setB c.val b.val x.val / 2 ^ b'.val % 2 = if b'.val = b.val then x.val else c.val / 2 ^ b'.val % 2 := by decide +kernel
theorem setB_lt_all : ∀ (c : Fin 256) (b : Fin 8) (x : Fin 2), setB c.val b.val x.val < 256 := by decide +kernel
theorem setB_bit (c b b' x : Nat) (hc : c < 256) (hb : b < 8) (hb' : b' < 8) (hx : x < 2) : setB c b x / 2 ^ b' % 2 = if b' = b then x else c / 2 ^ b' % 2 := setB_all ⟨c, hc⟩ ⟨b, hb⟩ ⟨b', hb'⟩ ⟨x, hx⟩
theorem setB_lt (c b x : Nat) (hc : c < 256) (hb : b < 8) (hx : x < 2) : setB c b x < 256 := setB_lt_all ⟨c, hc⟩ ⟨b, hb⟩ ⟨x, hx⟩
/-- The Go text's own way to it. -/
theorem setB_go : ∀ (c : Fin 256) (b : Fin 8) (x : Fin 2), (c.val &&& (255 ^^^ 2 ^ b.val)) ||| x.val * 2 ^ b.val = setB c.val b.val x.val := by decide +kernel

/-- Byte i behind k bits. -/
def pb (f v : Nat → Nat) (o a : Nat) : Nat → Nat → Nat
  | 0, i => f i
  | k + 1, i => if (a + k) / 8 = i then setB (pb f v o a k i) (bp o (a + k)) (v k) else pb f v o a k i
theorem pb_lt (f v : Nat → Nat) (o a : Nat) (hf : ∀ i, f i < 256) (hv : ∀ k, v k < 2) : ∀ k i, pb f v o a k i < 256
  | 0, i => hf i
  | k + 1, i => by
    rw [pb]
    split
    · exact setB_lt _ _ _ (pb_lt f v o a hf hv k i) (by have := bp_le o (a + k); omega) (hv k)
    · exact pb_lt f v o a hf hv k i
theorem bp_inj (o j k : Nat) (h8 : j / 8 = k / 8) (h : bp o j = bp o k) : j = k := by
  unfold bp at h; split at h <;> omega
theorem pb_bit (f v : Nat → Nat) (o a : Nat) (hf : ∀ i, f i < 256) (hv : ∀ k, v k < 2) (j : Nat) : ∀ k, pb f v o a k (j / 8) / 2 ^ bp o j % 2 = if a ≤ j ∧ j < a + k then v (j - a) else f (j / 8) / 2 ^ bp o j % 2
  | 0 => by rw [if_neg (by omega)]; rfl
  | k + 1 => by
    have ih := pb_bit f v o a hf hv j k
    have b1 := bp_le o j
    have b2 := bp_le o (a + k)
    rw [pb]
    by_cases h8 : (a + k) / 8 = j / 8
    · rw [if_pos h8, setB_bit _ _ _ _ (pb_lt f v o a hf hv k _) (by omega) (by omega) (hv k)]
      by_cases hb : bp o j = bp o (a + k)
      · have := bp_inj o j (a + k) h8.symm hb
        rw [if_pos hb, if_pos (by omega)]
        congr 1; omega
      · have : j ≠ a + k := fun e => hb (by rw [e])
        rw [if_neg hb, ih]
        congr 1
        simp only [eq_iff_iff]
        omega
    · have : j ≠ a + k := fun e => h8 (by rw [e])
      rw [if_neg h8, ih]
      congr 1
      simp only [eq_iff_iff]
      omega
/-- A byte out of its bits, the greatest first. -/
def up8 (c : Nat) : Nat := beV (fun k => c / 2 ^ (7 - k) % 2) 8
theorem up8_all : ∀ c : Fin 256, up8 c.val = c.val := by decide +kernel
theorem up8_is (c : Nat) (h : c < 256) : up8 c = c := up8_all ⟨c, h⟩
end Go.Proofs.YtebjccenlfhilaaDoor.Bit
