/-
  PROVED HERE: what lines of digits tell, in plain Lean; nothing of the Go text but the number of digits. Conditions: as each theorem states.
-/
import Derived.Test.YtnbpninnanjemaaDoorLzU
import Derived.Test.YtnbpninnanjemaaDoorParN
import Derived.Lib.SplitLaws
namespace Go.Proofs.YtnbpninnanjemaaDoor.Xl
open Go.RowKit Lz Dig
def dg (l : ByteArray) (i : Nat) : Int := dig ((ub l i).toNat : Int)
theorem dg_bounds (l : ByteArray) (i : Nat) : -1 ≤ dg l i ∧ dg l i ≤ 15 := by unfold dg dig; omega
/-- A byte of two digits. -/
def by2 (l : ByteArray) (i : Nat) : UInt8 := UInt8.ofNat (16 * (dg l i).toNat + (dg l (i + 1)).toNat)
/-- The bytes from place i on, f the first place: where they can't be read, or they. -/
def scan (l : ByteArray) (f i : Nat) (acc : List UInt8) : Option Nat × List UInt8 :=
  if i < l.size then
    if ub l i = 32 then
      if f < i ∧ i + 1 < l.size ∧ ub l (i + 1) = 32 then (none, acc) else scan l f (i + 1) acc
    else if l.size ≤ i + 1 ∨ dg l i < 0 ∨ dg l (i + 1) < 0 then (some i, [])
    else scan l f (i + 2) (acc ++ [by2 l i])
  else (none, acc)
termination_by l.size - i
theorem scan_end {l : ByteArray} {f i : Nat} (h : l.size ≤ i) (acc : List UInt8) : scan l f i acc = (none, acc) := by rw [scan, if_neg (by omega)]
theorem scan_two {l : ByteArray} {f i : Nat} (h : i < l.size) (h1 : ub l i = 32) (h2 : f < i ∧ i + 1 < l.size ∧ ub l (i + 1) = 32) (acc : List UInt8) : scan l f i acc = (none, acc) := by rw [scan, if_pos h, if_pos h1, if_pos h2]
theorem scan_blank {l : ByteArray} {f i : Nat} (h : i < l.size) (h1 : ub l i = 32) (h2 : ¬ (f < i ∧ i + 1 < l.size ∧ ub l (i + 1) = 32)) (acc : List UInt8) : scan l f i acc = scan l f (i + 1) acc := by rw [scan, if_pos h, if_pos h1, if_neg h2]
theorem scan_bad {l : ByteArray} {f i : Nat} (h : i < l.size) (h1 : ub l i ≠ 32) (h2 : l.size ≤ i + 1 ∨ dg l i < 0 ∨ dg l (i + 1) < 0) (acc : List UInt8) : scan l f i acc = (some i, []) := by rw [scan, if_pos h, if_neg h1, if_pos h2]
theorem scan_byte {l : ByteArray} {f i : Nat} (h : i < l.size) (h1 : ub l i ≠ 32) (h2 : ¬ (l.size ≤ i + 1 ∨ dg l i < 0 ∨ dg l (i + 1) < 0)) (acc : List UInt8) : scan l f i acc = scan l f (i + 2) (acc ++ [by2 l i]) := by rw [scan, if_pos h, if_neg h1, if_neg h2]
theorem scan_len (l : ByteArray) (f : Nat) : ∀ (n i : Nat) (acc : List UInt8), l.size - i ≤ n → (scan l f i acc).2.length ≤ acc.length + n := by
  intro n
  induction n using Nat.strongRecOn with
  | _ n ih =>
    intro i acc hn
    by_cases h : i < l.size
    · by_cases h1 : ub l i = 32
      · by_cases h2 : f < i ∧ i + 1 < l.size ∧ ub l (i + 1) = 32
        · rw [scan_two h h1 h2]; simp
        · rw [scan_blank h h1 h2]
          have := ih (n - 1) (by omega) (i + 1) acc (by omega)
          omega
      · by_cases h2 : l.size ≤ i + 1 ∨ dg l i < 0 ∨ dg l (i + 1) < 0
        · rw [scan_bad h h1 h2]; simp
        · rw [scan_byte h h1 h2]
          have := ih (n - 2) (by omega) (i + 2) (acc ++ [by2 l i]) (by omega)
          simp at this
          omega
    · rw [scan_end (by omega)]; simp
/-- Where the colon stands. -/
def col (l : ByteArray) : Int := Lib.indexByte l.data.toList 58
def hd (l : ByteArray) : ByteArray := l.extract 0 (col l).toNat
/-- What a line tells: where it can't be read; where it begins; its bytes. -/
def ln (l : ByteArray) : Option Nat × Option Nat × List UInt8 :=
  if col l < 0 then ((scan l 0 0 []).1, none, (scan l 0 0 []).2)
  else if pe (hd l) 16 ≠ 0 ∨ 4000 < pv (hd l) 16 then (some 0, none, [])
  else ((scan l ((col l).toNat + 1) ((col l).toNat + 1) []).1, some (pv (hd l) 16), (scan l ((col l).toNat + 1) ((col l).toNat + 1) []).2)
/-- Bytes put at a place; what is not told is 0. -/
def put (out : List UInt8) (a : Nat) (b : List UInt8) : List UInt8 :=
  (List.range (if b.length = 0 then out.length else max out.length (a + b.length))).map fun k => if a ≤ k ∧ k < a + b.length then b.getD (k - a) 0 else out.getD k 0
theorem put_len (out : List UInt8) (a : Nat) (b : List UInt8) : (put out a b).length = if b.length = 0 then out.length else max out.length (a + b.length) := by simp [put]
theorem put_get (out : List UInt8) (a : Nat) (b : List UInt8) (k : Nat) (hk : k < (put out a b).length) : (put out a b).getD k 0 = if a ≤ k ∧ k < a + b.length then b.getD (k - a) 0 else out.getD k 0 := by
  rw [put_len] at hk
  rw [List.getD_eq_getElem?_getD]
  unfold put
  rw [List.getElem?_map, List.getElem?_range hk]
  rfl
theorem put_nil (out : List UInt8) (a : Nat) : put out a [] = out := by
  apply List.ext_getElem
  · rw [put_len]; rfl
  · intro k h1 h2
    have := put_get out a [] k h1
    rw [List.getD_eq_getElem?_getD, List.getElem?_eq_getElem h1] at this
    simp only [Option.getD_some] at this
    rw [this, if_neg (by simp)]
    simp [h2]
/-- One line behind the other. -/
def ldl : List ByteArray → Nat → List UInt8 → Int × Int × List UInt8
  | [], _, out => (0, -1, out)
  | l :: r, b, out =>
    match (ln l).1 with
    | some p => (3, ((b + p : Nat) : Int), [])
    | none => if (ln l).2.2.length ≠ 0 ∧ 4000 < (ln l).2.1.getD out.length + (ln l).2.2.length then (4, -1, [])
      else ldl r (b + l.size + 1) (put out ((ln l).2.1.getD out.length) (ln l).2.2)
theorem ldl_bad {l : ByteArray} {r : List ByteArray} {b p : Nat} {out : List UInt8} (h : (ln l).1 = some p) : ldl (l :: r) b out = (3, ((b + p : Nat) : Int), []) := by rw [ldl, h]
theorem ldl_full {l : ByteArray} {r : List ByteArray} {b : Nat} {out : List UInt8} (h : (ln l).1 = none) (h2 : (ln l).2.2.length ≠ 0 ∧ 4000 < (ln l).2.1.getD out.length + (ln l).2.2.length) : ldl (l :: r) b out = (4, -1, []) := by rw [ldl, h]; simp only; rw [if_pos h2]
theorem ldl_next {l : ByteArray} {r : List ByteArray} {b : Nat} {out : List UInt8} (h : (ln l).1 = none) (h2 : ¬ ((ln l).2.2.length ≠ 0 ∧ 4000 < (ln l).2.1.getD out.length + (ln l).2.2.length)) : ldl (l :: r) b out = ldl r (b + l.size + 1) (put out ((ln l).2.1.getD out.length) (ln l).2.2) := by rw [ldl, h]; simp only; rw [if_neg h2]
/-- The document's map of what is told. -/
def RD {H : Type} (D : DataW H) (out : List UInt8) : Prop :=
  ∀ k : Nat, ∃ s : List UInt8, D.atKey (.int .i64 (k : Int)) (.lit (.string [])) = .lit (.string s) ∧ ((s = [out.getD k 0] ∧ k < out.length) ∨ (s = [] ∧ out.getD k 0 = 0))
end Go.Proofs.YtnbpninnanjemaaDoor.Xl
