/-
  PROVED HERE: the contract of slices.Reverse over bytes of the call's own; contracts of digits.Print and of the document's DigitsPrint; contracts of the document's DigitsPrint, and of both where they refuse. Conditions: as each theorem states.
-/
import Derived.Test.YtkopjmofdnlplaaGreatDoorRows
import Derived.Test.YtkopjmofdnlplaaGreatDoorOwn
import Derived.RegionTactic
import Derived.ChangeAlike
import Derived.Test.YtkopjmofdnlplaaGreatDoorRef
import Derived.Test.YtkopjmofdnlplaaGreatDoorDigA
import Derived.Test.YtkopjmofdnlplaaGreatDoorErrB
namespace Go.Proofs.YtkopjmofdnlplaaGreatDoor.Dig
open Go.RowKit

/-- The list behind k swaps. -/
def rk (l : List UInt8) (k : Nat) : List UInt8 := (List.range l.length).map fun j => if j < k ∨ l.length ≤ j + k then l.getD (l.length - 1 - j) 0 else l.getD j 0
theorem rk_len (l : List UInt8) (k : Nat) : (rk l k).length = l.length := by simp [rk]
theorem rk_get (l : List UInt8) (k j : Nat) (h : j < l.length) : (rk l k).getD j 0 = if j < k ∨ l.length ≤ j + k then l.getD (l.length - 1 - j) 0 else l.getD j 0 := by
  simp [rk, List.getD_eq_getElem?_getD, h]
theorem rk_zero (l : List UInt8) : rk l 0 = l := by
  apply List.ext_getElem
  · simp [rk]
  · intro i h1 h2
    simp only [rk, List.getElem_map, List.getElem_range]
    rw [if_neg (by omega)]
    simp [List.getD_eq_getElem?_getD, h2]
theorem rk_all (l : List UInt8) (k m : Nat) (h : k + m + 1 = l.length) (hm : m ≤ k) : rk l k = l.reverse := by
  apply List.ext_getElem
  · simp [rk]
  · intro i h1 h2
    have hi : i < l.length := by simpa [rk] using h1
    simp only [rk, List.getElem_map, List.getElem_range, List.getElem_reverse]
    by_cases c : i < k ∨ l.length ≤ i + k
    · rw [if_pos c]
      simp [List.getD_eq_getElem?_getD, show l.length - 1 - i < l.length by omega]
    · rw [if_neg c]
      have : l.length - 1 - i = i := by omega
      simp [List.getD_eq_getElem?_getD, hi, this]
theorem rk_succ (l : List UInt8) (k m : Nat) (a b : UInt8) (h : k + m + 1 = l.length) (hm : k < m) (ha : (rk l k).getD k 0 = a) (hb : (rk l k).getD m 0 = b) : ((rk l k).set k b).set m a = rk l (k + 1) := by
  rw [rk_get l k k (by omega)] at ha
  rw [rk_get l k m (by omega)] at hb
  subst ha hb
  apply List.ext_getElem
  · simp [rk]
  · intro i h1 h2
    have hi : i < l.length := by simpa [rk] using h2
    rw [List.getElem_set, List.getElem_set]
    simp only [rk, List.getElem_map, List.getElem_range]
    by_cases e1 : m = i
    · subst e1
      rw [if_pos rfl, if_neg (by omega), if_pos (by omega), show l.length - 1 - m = k by omega]
    · rw [if_neg e1]
      by_cases e2 : k = i
      · subst e2
        rw [if_pos rfl, if_neg (by omega), if_pos (by omega), show l.length - 1 - k = m by omega]
      · rw [if_neg e2]
        by_cases e3 : i < k ∨ l.length ≤ i + k
        · rw [if_pos e3, if_pos (by omega)]
        · rw [if_neg e3, if_neg (by omega)]

end Go.Proofs.YtkopjmofdnlplaaGreatDoor.Dig
namespace Go.Proofs.YtkopjmofdnlplaaGreatDoor.Dig
open Go.RowKit

/-- A digit's figure. -/
def fig (d : Nat) : UInt8 := if d < 10 then UInt8.ofNat (48 + d) else UInt8.ofNat (87 + d)
/-- The figures of a number, the least first. -/
def le (n b k : Nat) : List UInt8 := (List.range k).map fun i => fig (n / b ^ i % b)
theorem le_len (n b k : Nat) : (le n b k).length = k := by simp [le]
theorem le_succ (n b k : Nat) : le n b (k + 1) = le n b k ++ [fig (n / b ^ k % b)] := by simp [le, List.range_succ]
/-- How many figures: as many as are wanted, one at least, and as many as the number has. -/
def enough (n b w k : Nat) : Bool := decide (1 ≤ k ∧ w ≤ k ∧ n / b ^ k = 0)
def cnt (n b w : Nat) : Nat := ((List.range 65).find? (enough n b w)).getD 64
theorem find_least (p : Nat → Bool) (N k : Nat) (hk : k < N) (hp : p k = true) (hl : ∀ i, i < k → p i = false) : (List.range N).find? p = some k := by
  rw [List.find?_eq_some_iff_append]
  refine ⟨hp, List.range k, (List.range (N - k - 1)).map (· + (k + 1)), ?_, fun a ha => by simp [hl a (List.mem_range.1 ha)]⟩
  apply List.ext_getElem
  · simp; omega
  · intro i h1 h2
    rw [List.getElem_range]
    by_cases c : i < k
    · rw [List.getElem_append_left (by simpa using c)]; simp
    · rw [List.getElem_append_right (by simpa using Nat.le_of_not_lt c)]
      by_cases e : i = k
      · subst e; simp
      · have : i - (List.range k).length = (i - k - 1) + 1 := by simp; omega
        simp only [this, List.getElem_cons_succ, List.getElem_map, List.getElem_range]
        omega
theorem cnt_is (n b w k : Nat) (hk : k ≤ 64) (hp : enough n b w k = true) (hl : ∀ i, i < k → enough n b w i = false) : cnt n b w = k := by
  unfold cnt; rw [find_least _ 65 k (by omega) hp hl]; rfl

theorem figures_at : ∀ d : Fin 16, (⟨#[48, 49, 50, 51, 52, 53, 54, 55, 56, 57, 97, 98, 99, 100, 101, 102]⟩ : ByteArray)[d.val]'(d.isLt) = fig d.val := by decide +kernel

theorem fig_index (d : Nat) (h : d < 16) : (⟨#[48, 49, 50, 51, 52, 53, 54, 55, 56, 57, 97, 98, 99, 100, 101, 102]⟩ : ByteArray)[d]'h = fig d := figures_at ⟨d, h⟩
end Go.Proofs.YtkopjmofdnlplaaGreatDoor.Dig
namespace Go.Proofs.YtkopjmofdnlplaaGreatDoor.Dig
open Go.RowKit

/-- The figures of a number as a text. -/
def sle (n b k : Nat) : ByteArray := ⟨(le n b k).reverse.toArray⟩
theorem sle_size (n b k : Nat) : (sle n b k).size = k := by
  show (le n b k).reverse.toArray.size = k
  simp [le_len]
theorem sle_zero (n b : Nat) : sle n b 0 = ⟨#[]⟩ := by simp [sle, le]
theorem sle_succ (n b k : Nat) : sle n b (k + 1) = ⟨#[fig (n / b ^ k % b)]⟩ ++ sle n b k := by
  apply ByteArray.ext
  simp [sle, le_succ, ByteArray.data_append]
theorem fig_slice : ∀ d : Fin 16, ((⟨#[48, 49, 50, 51, 52, 53, 54, 55, 56, 57, 97, 98, 99, 100, 101, 102]⟩ : ByteArray).extract d.val 16).extract 0 1 = ⟨#[fig d.val]⟩ := by decide +kernel

end Go.Proofs.YtkopjmofdnlplaaGreatDoor.Dig
