/-
  PROVED HERE: what an expression comes to, and how it is written, as functions. Conditions: as each theorem states.
-/
import Derived.Test.YtofmheeiplagjaaGreatDoorExpA
import Derived.Test.YtofmheeiplagjaaGreatDoorDigD
namespace Go.Proofs.YtofmheeiplagjaaGreatDoor.Tm
open Go.RowKit Go.Proofs.YtofmheeiplagjaaGreatDoor.Lex Go.Proofs.YtofmheeiplagjaaGreatDoor.Dig
def truthI (b : Bool) : Int := if b then 1 else 0
/-- What an op makes of two numbers. -/
def opI (op : ByteArray) (a b : Int) : Int :=
  if op = ⟨#[43]⟩ then wrap64 (a + b) else if op = ⟨#[45]⟩ then wrap64 (a - b) else if op = ⟨#[42]⟩ then wrap64 (a * b)
  else if op = ⟨#[38]⟩ then bits BinOp.and IntKind.i64 a b else if op = ⟨#[124]⟩ then bits BinOp.or IntKind.i64 a b
  else if op = ⟨#[61, 61]⟩ then truthI (a == b) else if op = ⟨#[33, 61]⟩ then truthI (a != b) else if op = ⟨#[60]⟩ then truthI (decide (a < b)) else truthI (decide (b < a))
theorem opI_0 (a b : Int) : opI ⟨#[43]⟩ a b = wrap64 (a + b) := by unfold opI; rw [if_pos rfl]
theorem opI_1 (a b : Int) : opI ⟨#[45]⟩ a b = wrap64 (a - b) := by unfold opI; rw [if_neg (by decide), if_pos rfl]
theorem opI_2 (a b : Int) : opI ⟨#[42]⟩ a b = wrap64 (a * b) := by unfold opI; rw [if_neg (by decide), if_neg (by decide), if_pos rfl]
theorem opI_3 (a b : Int) : opI ⟨#[38]⟩ a b = bits BinOp.and IntKind.i64 a b := by unfold opI; rw [if_neg (by decide), if_neg (by decide), if_neg (by decide), if_pos rfl]
theorem opI_4 (a b : Int) : opI ⟨#[124]⟩ a b = bits BinOp.or IntKind.i64 a b := by unfold opI; rw [if_neg (by decide), if_neg (by decide), if_neg (by decide), if_neg (by decide), if_pos rfl]
theorem opI_5 (a b : Int) : opI ⟨#[61, 61]⟩ a b = truthI (a == b) := by unfold opI; rw [if_neg (by decide), if_neg (by decide), if_neg (by decide), if_neg (by decide), if_neg (by decide), if_pos rfl]
theorem opI_6 (a b : Int) : opI ⟨#[33, 61]⟩ a b = truthI (a != b) := by unfold opI; rw [if_neg (by decide), if_neg (by decide), if_neg (by decide), if_neg (by decide), if_neg (by decide), if_neg (by decide), if_pos rfl]
theorem opI_7 (a b : Int) : opI ⟨#[60]⟩ a b = truthI (decide (a < b)) := by unfold opI; rw [if_neg (by decide), if_neg (by decide), if_neg (by decide), if_neg (by decide), if_neg (by decide), if_neg (by decide), if_neg (by decide), if_pos rfl]
theorem opI_8 (a b : Int) : opI ⟨#[62]⟩ a b = truthI (decide (b < a)) := by unfold opI; rw [if_neg (by decide), if_neg (by decide), if_neg (by decide), if_neg (by decide), if_neg (by decide), if_neg (by decide), if_neg (by decide), if_neg (by decide)]
/-- The number, and what is wrong; f: the names' numbers. -/
def evalF (f : ByteArray → Int × Bool) : Ex → Int × (Int × Int)
  | .num _ n => (n, (0, -1))
  | .nam k s => if (f s).2 = true then ((f s).1, (0, -1)) else (0, (5, (k : Int)))
  | .bin _ op l r => if (evalF f l).2.1 ≠ 0 then (0, (evalF f l).2) else if (evalF f r).2.1 ≠ 0 then (0, (evalF f r).2) else (opI op (evalF f l).1 (evalF f r).1, (0, -1))
def Ex.isBin : Ex → Bool | .bin .. => true | _ => false
def Ex.op : Ex → ByteArray | .bin _ op _ _ => op | _ => emp
def numTxt (n : Int) : ByteArray := sle (n.emod 18446744073709551616).toNat 10 (cnt (n.emod 18446744073709551616).toNat 10 0)
def inB (b : Bool) (s : ByteArray) : ByteArray := if b then (⟨#[40]⟩ ++ s) ++ ⟨#[41]⟩ else s
/-- How an expression is written. -/
def textF : Ex → ByteArray
  | .num _ n => numTxt n
  | .nam _ s => s
  | .bin _ op l r => (((inB (decide (l.isBin = true ∧ hold l.op < hold op)) (textF l) ++ ⟨#[32]⟩) ++ op) ++ ⟨#[32]⟩) ++ inB (decide (r.isBin = true ∧ hold r.op < hold op + 1)) (textF r)
end Go.Proofs.YtofmheeiplagjaaGreatDoor.Tm
