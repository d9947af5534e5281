/-
  PROVED HERE: bytes as lines, in plain Lean: the program's row and the document's. Conditions: as each theorem states.
-/
import Derived.Test.YthkigjhbcempbaaDoorHexP
import Derived.Test.YthkigjhbcempbaaDoorShw
namespace Go.Proofs.YthkigjhbcempbaaDoor.Xd
open Go.RowKit Dig Shw
def hx (c : Nat) : List UInt8 := [fig (c / 16), fig (c % 16)]
theorem hexs_one (s : ByteArray) (a b k : Nat) (h : a + k < b) (hb : b ≤ s.size) : hexs ((s.extract a b).extract k (k + 1)) 1 = hx (byteAt s (a + k)) := by
  have hz : (s.extract a b).size = b - a := by rw [ByteArray.size_extract]; omega
  have e : byteAt ((s.extract a b).extract k (k + 1)) 0 = byteAt s (a + k) := by
    rw [byteAt_extract _ _ _ _ (by omega) (by omega), Nat.add_zero, byteAt_extract _ _ _ _ h hb]
  simp [hexs, hx, e]
theorem hexs_one' (s : ByteArray) (k : Nat) (h : k < s.size) : hexs (s.extract k (k + 1)) 1 = hx (byteAt s k) := by
  have e : byteAt (s.extract k (k + 1)) 0 = byteAt s k := by rw [byteAt_extract _ _ _ _ (by omega) (by omega), Nat.add_zero]
  simp [hexs, hx, e]
def cell (s : ByteArray) (at_ k : Nat) : List UInt8 := if at_ + k < s.size then hx (byteAt s (at_ + k)) else [32, 32]
def gap (g k : Nat) : List UInt8 := if k % g = 0 then [32] else []
/-- The document's line, k columns of it. -/
def dk (s : ByteArray) (at_ g : Nat) : Nat → List UInt8
  | 0 => []
  | k + 1 => dk s at_ g k ++ (gap g k ++ cell s at_ k)
theorem cell_len (s : ByteArray) (at_ k : Nat) : (cell s at_ k).length = 2 := by unfold cell hx; split <;> rfl
theorem gap_len (g k : Nat) : (gap g k).length = if k % g = 0 then 1 else 0 := by unfold gap; split <;> rfl
theorem ceil_succ (g k : Nat) (hg : 1 ≤ g) : (k + 1 + g - 1) / g = (k + g - 1) / g + (if k % g = 0 then 1 else 0) := by
  have h1 : k + 1 + g - 1 = k + g := by omega
  rw [h1]
  have hd := Nat.div_add_mod k g
  have hm := Nat.mod_lt k hg
  rw [Nat.add_div_right k hg]
  split
  · rename_i h0
    have : (k + g - 1) / g = k / g := by
      apply Nat.div_eq_of_lt_le
      · rw [Nat.mul_comm]; omega
      · rw [Nat.add_mul, Nat.one_mul, Nat.mul_comm]; omega
    rw [this]
  · rename_i h0
    have : (k + g - 1) / g = k / g + 1 := by
      apply Nat.div_eq_of_lt_le
      · rw [Nat.add_mul, Nat.one_mul, Nat.mul_comm]; omega
      · rw [Nat.add_mul, Nat.add_mul, Nat.one_mul, Nat.mul_comm]; omega
    rw [this]
def wd (g k : Nat) : Nat := 2 * k + (k + g - 1) / g
theorem wd_zero (g : Nat) (hg : 1 ≤ g) : wd g 0 = 0 := by unfold wd; rw [Nat.div_eq_of_lt (by omega)]
theorem wd_succ (g k : Nat) (hg : 1 ≤ g) : wd g (k + 1) = wd g k + (if k % g = 0 then 1 else 0) + 2 := by
  unfold wd; rw [ceil_succ g k hg]; omega
theorem dk_len (s : ByteArray) (at_ g : Nat) (hg : 1 ≤ g) : ∀ k, (dk s at_ g k).length = wd g k
  | 0 => (wd_zero g hg).symm
  | k + 1 => by rw [dk, List.length_append, List.length_append, dk_len s at_ g hg k, cell_len, gap_len, wd_succ g k hg]; omega
theorem wd_mono (g r : Nat) (hg : 1 ≤ g) : ∀ m, wd g r ≤ wd g (r + m)
  | 0 => Nat.le_refl _
  | m + 1 => by have := wd_mono g r hg m; rw [← Nat.add_assoc, wd_succ g _ hg]; omega
/-- Behind the text's end there are blanks alone. -/
theorem dk_far (s : ByteArray) (at_ g r : Nat) (hg : 1 ≤ g) (hr : s.size ≤ at_ + r) : ∀ m, dk s at_ g (r + m) = dk s at_ g r ++ List.replicate (wd g (r + m) - wd g r) 32
  | 0 => by simp
  | m + 1 => by
    have h1 := wd_mono g r hg m
    have e : r + (m + 1) = r + m + 1 := by omega
    rw [e, dk, dk_far s at_ g r hg hr m, wd_succ g _ hg, List.append_assoc]
    congr 1
    have hc : cell s at_ (r + m) = [32, 32] := by unfold cell; rw [if_neg (by omega)]
    rw [hc]
    unfold gap
    by_cases h0 : (r + m) % g = 0
    · rw [if_pos h0, if_pos h0]
      rw [show wd g (r + m) + 1 + 2 - wd g r = (wd g (r + m) - wd g r) + 3 by omega, ← List.replicate_append_replicate]
      rfl
    · rw [if_neg h0, if_neg h0]
      rw [show wd g (r + m) + 0 + 2 - wd g r = (wd g (r + m) - wd g r) + 2 by omega, ← List.replicate_append_replicate]
      rfl
def place (at_ : Nat) : List UInt8 := (le at_ 16 (cnt at_ 16 8)).reverse
def rowT (s : ByteArray) (at_ cols g : Nat) : List UInt8 := place at_ ++ [58] ++ dk s at_ g cols ++ [32, 32] ++ (shT (s.extract at_ (min (at_ + cols) s.size))).data.toList ++ [10]
/-- The first n rows. -/
def acc (s : ByteArray) (cols g n : Nat) : List UInt8 := (List.range n).flatMap fun i => rowT s (i * cols) cols g
theorem acc_succ (s : ByteArray) (cols g n : Nat) : acc s cols g (n + 1) = acc s cols g n ++ rowT s (n * cols) cols g := by simp [acc, List.range_succ]
theorem shT_size (s : ByteArray) : (shT s).size = s.size := shK_size s s.size
theorem cnt_le (n b w : Nat) : cnt n b w ≤ 64 := by
  unfold cnt
  cases h : (List.range 65).find? (enough n b w) with
  | none => exact Nat.le_refl _
  | some k =>
    have := List.mem_of_find?_eq_some h
    have := List.mem_range.1 this
    show k ≤ 64
    omega
theorem wd_le (g k : Nat) (hg : 1 ≤ g) : wd g k ≤ 3 * k := by
  induction k with
  | zero => rw [wd_zero g hg]; exact Nat.le_refl _
  | succ k ih => rw [wd_succ g k hg]; split <;> omega
theorem rowT_len (s : ByteArray) (at_ cols g : Nat) (hg : 1 ≤ g) (hc : cols ≤ 256) : (rowT s at_ cols g).length ≤ 2000 := by
  have h1 := cnt_le at_ 16 8
  have h2 := wd_le g cols hg
  have h3 := shT_size (s.extract at_ (min (at_ + cols) s.size))
  rw [ByteArray.size_extract] at h3
  have h4 : (shT (s.extract at_ (min (at_ + cols) s.size))).data.toList.length = (shT (s.extract at_ (min (at_ + cols) s.size))).size := rfl
  unfold rowT place
  simp only [List.length_append, List.length_reverse, le_len, dk_len s at_ g hg, h4, h3, List.length_cons, List.length_nil]
  omega
theorem acc_len (s : ByteArray) (cols g : Nat) (hg : 1 ≤ g) (hc : cols ≤ 256) : ∀ n, (acc s cols g n).length ≤ n * 2000
  | 0 => Nat.le_refl _
  | n + 1 => by
    have := acc_len s cols g hg hc n
    have := rowT_len s (n * cols) cols g hg hc
    rw [acc_succ, List.length_append]
    omega
/-- How many rows there are. -/
theorem rows_is {n cols z : Nat} (hc : 1 ≤ cols) (h1 : z ≤ n * cols) (h2 : n * cols < z + cols) : n = (z + cols - 1) / cols := by
  symm
  apply Nat.div_eq_of_lt_le
  · omega
  · rw [Nat.add_mul, Nat.one_mul]; omega
/-- The document's plain digits, k bytes of them. -/
def pk (s : ByteArray) : Nat → List UInt8
  | 0 => []
  | k + 1 => pk s k ++ (hx (byteAt s k) ++ if k % 30 = 29 ∨ k + 1 = s.size then [10] else [])
theorem pk_row (s : ByteArray) (a : Nat) (ha : a % 30 = 0) (b : Nat) (hb : b ≤ s.size) : ∀ j, a + j < b → j < 30 → pk s (a + j) = pk s a ++ hexs (s.extract a b) j
  | 0, _, _ => by simp [hexs]
  | j + 1, h1, h2 => by
    rw [← Nat.add_assoc, pk, pk_row s a ha b hb j (by omega) (by omega), hexs_succ, if_neg (by omega), byteAt_extract _ _ _ _ (by omega) hb]
    simp [hx]
theorem pk_step (s : ByteArray) (a : Nat) (ha : a % 30 = 0) (h : a < s.size) : pk s (min (a + 30) s.size) = pk s a ++ (hexs (s.extract a (min (a + 30) s.size)) (s.extract a (min (a + 30) s.size)).size ++ [10]) := by
  have hz : (s.extract a (min (a + 30) s.size)).size = min (a + 30) s.size - a := by rw [ByteArray.size_extract]; omega
  rw [hz]
  obtain ⟨j, hj⟩ : ∃ j, min (a + 30) s.size = a + j + 1 := ⟨min (a + 30) s.size - a - 1, by omega⟩
  have hr := pk_row s a ha (min (a + 30) s.size) (by omega) j (by omega) (by omega)
  rw [hj] at hr
  rw [hj, pk, hr, if_pos (by omega), show a + j + 1 - a = j + 1 by omega, hexs_succ, byteAt_extract _ _ _ _ (by omega) (by omega)]
  simp [hx]
theorem pk_len (s : ByteArray) : ∀ k, (pk s k).length ≤ 3 * k
  | 0 => Nat.le_refl _
  | k + 1 => by
    have := pk_len s k
    rw [pk, List.length_append, List.length_append]
    have h2 : (hx (byteAt s k)).length = 2 := rfl
    rw [h2]
    split <;> simp <;> omega
end Go.Proofs.YthkigjhbcempbaaDoor.Xd
