/-
  PROVED HERE: the contract of the laws' sameExpr. Conditions: as each theorem states.
-/
import Derived.Test.YtkopjmofdnlplaaGreatDoorTmG
namespace Go.Proofs.YtkopjmofdnlplaaGreatDoor.Tm
open Go.RowKit Go.Proofs.YtkopjmofdnlplaaGreatDoor.Lex Go.Proofs.YtkopjmofdnlplaaGreatDoor.Dig
theorem ExAt.below {w w' : World} (hb : Below w.heap.size w w') : ∀ (x : Ex) (v : Value), ExAt w x v → ExAt w' x v
  | .num _ _, _, ⟨g, e, h⟩ => ⟨g, e, (hb.block g (Array.getElem?_eq_some_iff.1 h).1).trans h⟩
  | .nam _ _, _, ⟨g, e, h⟩ => ⟨g, e, (hb.block g (Array.getElem?_eq_some_iff.1 h).1).trans h⟩
  | .bin _ _ l r, _, ⟨g, a, b, e, h, h1, h2⟩ => ⟨g, a, b, e, (hb.block g (Array.getElem?_eq_some_iff.1 h).1).trans h, ExAt.below hb l a h1, ExAt.below hb r b h2⟩
theorem ExAt.drewN {w : World} {x : Ex} {v : Value} (h : ExAt w x v) (n : Nat) : ExAt (w.drewN n) x v := ExAt.below (below_drewN (Below.refl _ _) n) x v h
def SmP (W : World) (e : Ending) (w' : World) : Prop := e = .returned (.bool true) ∧ ∃ n, w' = W.drewN n
theorem box_cells {w : World} {g : Nat} {cs : List Value} {t : TypeId} (h : w.heap[g]? = some (.cells cs.toArray t)) (j : Nat) (hj : j < cs.length) : w.cell? ⟨g, j, none⟩ = some cs[j] := by
  unfold World.cell?
  rw [h]
  simp [hj]
end Go.Proofs.YtkopjmofdnlplaaGreatDoor.Tm
