/-
  PROVED HERE: undo's tree and the document's in memory. Conditions: as each theorem states.
-/
import Derived.Test.YtijcehimdhbceaaDoorRows
import Derived.Test.YtijcehimdhbceaaDoorKpt
import Derived.Test.YtijcehimdhbceaaDoorUnA
namespace Go.Proofs.YtijcehimdhbceaaDoor.Un
open Go.RowKit
structure St where
  what : Int
  up : Int
  down : Int
def St.cells (e : St) : List Value := [.int .i64 e.what, .int .i64 e.up, .int .i64 e.down]
def stCells (l : List St) : List Value := l.flatMap St.cells
theorem stCells_len (l : List St) : (stCells l).length = l.length * 3 := by
  induction l with
  | nil => rfl
  | cons e r ih => rw [stCells, List.flatMap_cons, List.length_append, ← stCells, ih, List.length_cons]; simp [St.cells]; omega
theorem stCells_snoc (l : List St) (e : St) : stCells l ++ e.cells = stCells (l ++ [e]) := by simp [stCells]
theorem stCells_get (l : List St) (j i : Nat) (hj : j < l.length) (hi : i < 3) : (stCells l)[j * 3 + i]? = l[j].cells[i]? := by
  induction l generalizing j with
  | nil => simp at hj
  | cons e r ih =>
    rw [stCells, List.flatMap_cons, ← stCells]
    cases j with
    | zero =>
      rw [Nat.zero_mul, Nat.zero_add, List.getElem?_append_left (by simp [St.cells]; omega)]
      rfl
    | succ j =>
      rw [List.getElem?_append_right (by simp [St.cells]; omega), show (j + 1) * 3 + i - e.cells.length = j * 3 + i by simp [St.cells]; omega]
      rw [ih j (by simpa using hj)]
      rfl
theorem stCells_set (l : List St) (j : Nat) (hj : j < l.length) (x : Int) : (stCells l).set (j * 3 + 2) (.int .i64 x) = stCells (l.set j { l[j] with down := x }) := by
  induction l generalizing j with
  | nil => simp at hj
  | cons e r ih =>
    cases j with
    | zero => simp [stCells, St.cells]
    | succ j =>
      have e1 : stCells (e :: r) = e.cells ++ stCells r := by simp [stCells]
      rw [e1, List.set_append_right _ _ (by simp [St.cells]; omega), show (j + 1) * 3 + 2 - e.cells.length = j * 3 + 2 by simp [St.cells]; omega, ih j (by simpa using hj)]
      simp [stCells]
/-- States in a list of the call's own. -/
def OwnS (w : World) (v : Value) (l : List St) : Prop := w.ownsRow 0 65 3 v l.length (stCells l)
/-- undo's tree at ⟨g, 0⟩, its states in block b. -/
structure PT (w : World) (g b cap : Nat) (l : List St) (now : Nat) : Prop where
  c0 : w.cell? ⟨g, 0, none⟩ = some (.slice (some ⟨b, 0, none⟩) l.length cap)
  c1 : w.cell? ⟨g, 1, none⟩ = some (.int .i64 now)
  fz : ∀ j, w.frozen? ⟨g, j, none⟩ = false
  own : OwnS w (.slice (some ⟨b, 0, none⟩) l.length cap) l
  ne : b ≠ g
/-- The document's tree at ⟨g, 0⟩: the ways up in block b, the times in block d. -/
structure DT (w : World) (g b cap d cap' : Nat) (up tm : List Int) (now t : Nat) : Prop where
  c0 : w.cell? ⟨g, 0, none⟩ = some (.slice (some ⟨b, 0, none⟩) up.length cap)
  c1 : w.cell? ⟨g, 1, none⟩ = some (.int .i64 now)
  c2 : w.cell? ⟨g, 2, none⟩ = some (.slice (some ⟨d, 0, none⟩) tm.length cap')
  c3 : w.cell? ⟨g, 3, none⟩ = some (.int .i64 t)
  fz : ∀ j, w.frozen? ⟨g, j, none⟩ = false
  ow1 : Own w 0 3 (.slice (some ⟨b, 0, none⟩) up.length cap) (i64s up)
  ow2 : Own w 0 3 (.slice (some ⟨d, 0, none⟩) tm.length cap') (i64s tm)
  ne1 : b ≠ g
  ne2 : d ≠ g
  ne3 : b ≠ d
theorem PT.keeps {S : Nat → Prop} {w w1 : World} {g b cap now : Nat} {l : List St} (h : PT w g b cap l now) (k : Keeps S w w1) (hg : ¬ S g) (hb : ¬ S b) : PT w1 g b cap l now :=
  ⟨k.cell (p := ⟨g, 0, none⟩) hg h.c0, k.cell (p := ⟨g, 1, none⟩) hg h.c1, fun j => (World.frozen?_of_block (w := w) (a := ⟨g, j, none⟩) (k.block g (World.block_lt_of_cell? w _ h.c0) hg)).trans (h.fz j), k.ownsRow (fun j e => by injection e with e; subst e; exact hb) h.own, h.ne⟩
theorem DT.keeps {S : Nat → Prop} {w w1 : World} {g b cap d cap' now t : Nat} {up tm : List Int} (h : DT w g b cap d cap' up tm now t) (k : Keeps S w w1) (hg : ¬ S g) (hb : ¬ S b) (hd : ¬ S d) : DT w1 g b cap d cap' up tm now t :=
  ⟨k.cell (p := ⟨g, 0, none⟩) hg h.c0, k.cell (p := ⟨g, 1, none⟩) hg h.c1, k.cell (p := ⟨g, 2, none⟩) hg h.c2, k.cell (p := ⟨g, 3, none⟩) hg h.c3, fun j => (World.frozen?_of_block (w := w) (a := ⟨g, j, none⟩) (k.block g (World.block_lt_of_cell? w _ h.c0) hg)).trans (h.fz j), k.ownsRow (fun j e => by injection e with e; subst e; exact hb) h.ow1, k.ownsRow (fun j e => by injection e with e; subst e; exact hd) h.ow2, h.ne1, h.ne2, h.ne3⟩
end Go.Proofs.YtijcehimdhbceaaDoor.Un
