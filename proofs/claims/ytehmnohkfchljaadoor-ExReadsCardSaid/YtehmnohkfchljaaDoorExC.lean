/-
  PROVED HERE: a command in memory while it is read: four cells, three rows. Conditions: as each theorem states.
-/
import Derived.Test.YtehmnohkfchljaaDoorTac
import Derived.Test.YtehmnohkfchljaaDoorRows
import Derived.Lib.OthersKept
import Derived.WalkSmall
namespace Go.Proofs.YtehmnohkfchljaaDoor.Ex
open Go.RowKit
theorem infoInt : (Tryd.prog.info? 3).map (fun i => (i.zero, i.size, i.bytes)) = some (some (.int .i64 0), 1, 8) := by kernel_rfl
theorem infoStr : (Tryd.prog.info? 9).map (fun i => (i.zero, i.size, i.bytes)) = some (some (.string ⟨#[]⟩), 1, 16) := by kernel_rfl
def strs (l : List ByteArray) : List Value := l.map Value.string
theorem strs_len (l : List ByteArray) : (strs l).length = l.length := by simp [strs]
theorem strs_snoc (l : List ByteArray) (c : ByteArray) : strs l ++ [.string c] = strs (l ++ [c]) := by simp [strs]
/-- The command's variable at block G; the rows from H on; the iterator (where there is one) behind the variable. -/
structure CM (W0 : World) (G H : Nat) (it : Option Obj) (w : ByteArray) (vn vb vq : Value) (N : List Int) (B : List ByteArray) (Q : List Int) (A : World) : Prop where
  bel : Below G W0 A
  gh : G < H
  sz : H ≤ A.heap.size
  c0 : A.cell? ⟨G, 0, none⟩ = some (.string w)
  c1 : A.cell? ⟨G, 1, none⟩ = some vn
  c2 : A.cell? ⟨G, 2, none⟩ = some vb
  c3 : A.cell? ⟨G, 3, none⟩ = some vq
  fz : ∀ j, A.frozen? ⟨G, j, none⟩ = false
  on : Own A H 3 vn (i64s N)
  ob : Own A H 9 vb (strs B)
  oq : Own A H 3 vq (i64s Q)
  nb : ∀ r, vn.ownBlock = some r → vb.ownBlock ≠ some r
  nq : ∀ r, vn.ownBlock = some r → vq.ownBlock ≠ some r
  bq : ∀ r, vb.ownBlock = some r → vq.ownBlock ≠ some r
  ix : ∀ o, it = some o → G + 1 < H ∧ A.heap[G + 1]? = some o
section
variable {W0 A A' : World} {G H : Nat} {it it' : Option Obj} {w : ByteArray} {vn vb vq v' : Value} {N N' Q Q' : List Int} {B B' : List ByteArray}
theorem own_apart {e : TypeId} {v : Value} {xs : List Value} (h : Own A H e v xs) {row : Option Nat} (hg : A.grownBy A' row) (hr : ∀ r, row = some r → v.ownBlock ≠ some r) : Own A' H e v xs := by
  refine h.keep hg ?_
  cases row with
  | none => cases e : v.ownBlock <;> simp
  | some r => exact .inr (hr r rfl)
theorem CM.core (h : CM W0 G H it w vn vb vq N B Q A) {row : Option Nat} (hg : A.grownBy A' row) (hr : ∀ r, row = some r → G < r ∧ vn.ownBlock ≠ some r ∧ vb.ownBlock ≠ some r ∧ vq.ownBlock ≠ some r) (hi : ∀ o, it' = some o → G + 1 < H ∧ A'.heap[G + 1]? = some o) :
    CM W0 G H it' w vn vb vq N B Q A' := by
  have hG : G < A.heap.size := World.block_lt_of_cell? A _ h.c0
  have hk : A'.heap[G]? = A.heap[G]? := hg.block G hG (fun e => by have := (hr _ e.symm).1; omega)
  have kc : ∀ j, A'.cell? ⟨G, j, none⟩ = A.cell? ⟨G, j, none⟩ := fun j => World.cell?_of_block (a := ⟨G, j, none⟩) hk
  exact ⟨h.bel.grown hg (Nat.le_of_lt hG) (fun k e => by have := (hr k e).1; omega), h.gh, Nat.le_trans h.sz hg.size, (kc 0).trans h.c0, (kc 1).trans h.c1, (kc 2).trans h.c2, (kc 3).trans h.c3,
    fun j => (World.frozen?_of_block (a := ⟨G, j, none⟩) hk).trans (h.fz j), own_apart h.on hg (fun r e => (hr r e).2.1), own_apart h.ob hg (fun r e => (hr r e).2.2.1), own_apart h.oq hg (fun r e => (hr r e).2.2.2), h.nb, h.nq, h.bq, hi⟩
theorem CM.grown (h : CM W0 G H it w vn vb vq N B Q A) {row : Option Nat} (hg : A.grownBy A' row) (hr : ∀ r, row = some r → H ≤ r ∧ vn.ownBlock ≠ some r ∧ vb.ownBlock ≠ some r ∧ vq.ownBlock ≠ some r) : CM W0 G H it w vn vb vq N B Q A' :=
  h.core hg (fun r e => ⟨by have := h.gh; have := (hr r e).1; omega, (hr r e).2⟩) (fun o e => by
    obtain ⟨h1, h2⟩ := h.ix o e
    exact ⟨h1, (hg.block _ (Array.getElem?_eq_some_iff.1 h2).1 (fun e2 => by have := (hr _ e2.symm).1; omega)).trans h2⟩)
theorem below_grown' {A B : World} (h : Below A.heap.size A B) : A.grownBy B none := ⟨h.os, h.tape, h.output, h.size, fun k hk _ => h.block k hk⟩
theorem CM.below (h : CM W0 G H it w vn vb vq N B Q A) (hb : Below A.heap.size A A') : CM W0 G H it w vn vb vq N B Q A' := h.grown (below_grown' hb) (fun r e => by cases e)
theorem CM.alloc (h : CM W0 G H it w vn vb vq N B Q A) (o : Obj) : CM W0 G H it w vn vb vq N B Q (A.alloc o) := h.below ((Below.refl _ _).alloc (Nat.le_refl _) _)
theorem CM.drew (h : CM W0 G H it w vn vb vq N B Q A) : CM W0 G H it w vn vb vq N B Q A.drew := h.below (Below.refl _ _).drew
/-- The iterator goes on. -/
theorem CM.next {s : ByteArray} {p p' : Nat} (h : CM W0 G H (some (.stringIter s p)) w vn vb vq N B Q A) : CM W0 G H (some (.stringIter s p')) w vn vb vq N B Q (A.iterAt (G + 1) s p') := by
  obtain ⟨h1, h2⟩ := h.ix _ rfl
  have hg : A.grownBy (A.iterAt (G + 1) s p') (some (G + 1)) := ⟨rfl, rfl, rfl, Nat.le_of_eq (Lib.iterAt_size _ _ _ _).symm, fun k _ hk => Lib.iterAt_other _ _ _ _ _ (fun e => hk (by rw [e]))⟩
  have no : ∀ {e : TypeId} {v : Value} {xs : List Value}, Own A H e v xs → v.ownBlock ≠ some (G + 1) := fun ho e => by have := (ho.lt _ e).1; omega
  exact h.core hg (fun r e => by cases e; exact ⟨by omega, no h.on, no h.ob, no h.oq⟩) (fun o e => by cases e; exact ⟨h1, Lib.iterAt_heap _ _ _ _ _ h2⟩)
theorem heap_other (w : World) (a : Addr) (k : Nat) (v : Value) (h : k ≠ a.block) : (w.setCell a v).heap[k]? = w.heap[k]? := Below.heap_setCell _ _ _ k h
/-- One of the three cells is written, and its row with it. -/
theorem CM.numset (h : CM W0 G H it w vn vb vq N B Q A) (hg : A.grownBy A' vn.ownBlock) (ho : Own A' H 3 v' (i64s N')) (hor : v'.ownBlock = vn.ownBlock ∨ v'.ownBlock = some A.heap.size) :
    A'.cell? ⟨G, 1, none⟩ = some vn ∧ A'.frozen? ⟨G, 1, none⟩ = false ∧ CM W0 G H it w v' vb vq N' B Q (A'.setCell ⟨G, 1, none⟩ v') := by
  have hG : G < A.heap.size := World.block_lt_of_cell? A _ h.c0
  have hgh := h.gh
  have hr : ∀ r, vn.ownBlock = some r → H ≤ r := fun r e => (h.on.lt r e).1
  have hk : A'.heap[G]? = A.heap[G]? := hg.block G hG (fun e => by have := hr _ e.symm; omega)
  have kc : ∀ j, A'.cell? ⟨G, j, none⟩ = A.cell? ⟨G, j, none⟩ := fun j => World.cell?_of_block (a := ⟨G, j, none⟩) hk
  have kf : ∀ j, A'.frozen? ⟨G, j, none⟩ = A.frozen? ⟨G, j, none⟩ := fun j => World.frozen?_of_block (a := ⟨G, j, none⟩) hk
  have b1 := own_apart h.ob hg (fun r e => (fun e2 => h.nb r e e2))
  have q1 := own_apart h.oq hg (fun r e => (fun e2 => h.nq r e e2))
  refine ⟨(kc 1).trans h.c1, (kf 1).trans (h.fz 1), ⟨(h.bel.grown hg (Nat.le_of_lt hG) (fun k e => by have := hr k e; omega)).setCell (p := ⟨G, 1, none⟩) (Nat.le_refl _) _, h.gh, Nat.le_trans h.sz (by simpa [World.setCell] using hg.size), ?_, ?_, ?_, ?_, ?_, ?_, ?_, ?_, ?_, ?_, h.bq, ?_⟩⟩
  · rw [World.cell?_setCell_other _ _ _ _ (by simp)]; exact (kc 0).trans h.c0
  · exact World.cell?_setCell_same _ _ _ ((kc 1).trans h.c1)
  · rw [World.cell?_setCell_other _ _ _ _ (by simp)]; exact (kc 2).trans h.c2
  · rw [World.cell?_setCell_other _ _ _ _ (by simp)]; exact (kc 3).trans h.c3
  · intro j; rw [World.frozen?_setCell]; exact (kf j).trans (h.fz j)
  · exact ho.setBelow (a := ⟨G, 1, none⟩) hgh _
  · exact b1.setBelow (a := ⟨G, 1, none⟩) hgh _
  · exact q1.setBelow (a := ⟨G, 1, none⟩) hgh _
  · intro r e e2
    rcases hor with e3 | e3
    · exact h.nb r (e3 ▸ e) e2
    · rw [e3] at e; cases e; have := (h.ob.lt _ e2).2; omega
  · intro r e e2
    rcases hor with e3 | e3
    · exact h.nq r (e3 ▸ e) e2
    · rw [e3] at e; cases e; have := (h.oq.lt _ e2).2; omega
  · intro o e
    obtain ⟨h1, h2⟩ := h.ix o e
    refine ⟨h1, ?_⟩
    rw [heap_other _ _ _ _ (by simp)]
    exact (hg.block _ (Array.getElem?_eq_some_iff.1 h2).1 (fun e2 => by have := hr _ e2.symm; omega)).trans h2
theorem CM.bytset (h : CM W0 G H it w vn vb vq N B Q A) (hg : A.grownBy A' vb.ownBlock) (ho : Own A' H 9 v' (strs B')) (hor : v'.ownBlock = vb.ownBlock ∨ v'.ownBlock = some A.heap.size) :
    A'.cell? ⟨G, 2, none⟩ = some vb ∧ A'.frozen? ⟨G, 2, none⟩ = false ∧ CM W0 G H it w vn v' vq N B' Q (A'.setCell ⟨G, 2, none⟩ v') := by
  have hG : G < A.heap.size := World.block_lt_of_cell? A _ h.c0
  have hgh := h.gh
  have hr : ∀ r, vb.ownBlock = some r → H ≤ r := fun r e => (h.ob.lt r e).1
  have hk : A'.heap[G]? = A.heap[G]? := hg.block G hG (fun e => by have := hr _ e.symm; omega)
  have kc : ∀ j, A'.cell? ⟨G, j, none⟩ = A.cell? ⟨G, j, none⟩ := fun j => World.cell?_of_block (a := ⟨G, j, none⟩) hk
  have kf : ∀ j, A'.frozen? ⟨G, j, none⟩ = A.frozen? ⟨G, j, none⟩ := fun j => World.frozen?_of_block (a := ⟨G, j, none⟩) hk
  have n1 := own_apart h.on hg (fun r e => (fun e2 => h.nb r e2 e))
  have q1 := own_apart h.oq hg (fun r e => (fun e2 => h.bq r e e2))
  refine ⟨(kc 2).trans h.c2, (kf 2).trans (h.fz 2), ⟨(h.bel.grown hg (Nat.le_of_lt hG) (fun k e => by have := hr k e; omega)).setCell (p := ⟨G, 2, none⟩) (Nat.le_refl _) _, h.gh, Nat.le_trans h.sz (by simpa [World.setCell] using hg.size), ?_, ?_, ?_, ?_, ?_, ?_, ?_, ?_, ?_, h.nq, ?_, ?_⟩⟩
  · rw [World.cell?_setCell_other _ _ _ _ (by simp)]; exact (kc 0).trans h.c0
  · rw [World.cell?_setCell_other _ _ _ _ (by simp)]; exact (kc 1).trans h.c1
  · exact World.cell?_setCell_same _ _ _ ((kc 2).trans h.c2)
  · rw [World.cell?_setCell_other _ _ _ _ (by simp)]; exact (kc 3).trans h.c3
  · intro j; rw [World.frozen?_setCell]; exact (kf j).trans (h.fz j)
  · exact n1.setBelow (a := ⟨G, 2, none⟩) hgh _
  · exact ho.setBelow (a := ⟨G, 2, none⟩) hgh _
  · exact q1.setBelow (a := ⟨G, 2, none⟩) hgh _
  · intro r e e2
    rcases hor with e3 | e3
    · exact h.nb r e (e3 ▸ e2)
    · rw [e3] at e2; cases e2; have := (h.on.lt _ e).2; omega
  · intro r e e2
    rcases hor with e3 | e3
    · exact h.bq r (e3 ▸ e) e2
    · rw [e3] at e; cases e; have := (h.oq.lt _ e2).2; omega
  · intro o e
    obtain ⟨h1, h2⟩ := h.ix o e
    refine ⟨h1, ?_⟩
    rw [heap_other _ _ _ _ (by simp)]
    exact (hg.block _ (Array.getElem?_eq_some_iff.1 h2).1 (fun e2 => by have := hr _ e2.symm; omega)).trans h2
theorem CM.wayset (h : CM W0 G H it w vn vb vq N B Q A) {row : Option Nat} (hg : A.grownBy A' row) (hrow : ∀ r, row = some r → vq.ownBlock = some r) (ho : Own A' H 3 v' (i64s Q')) (hor : v'.ownBlock = vq.ownBlock ∨ ∀ r, v'.ownBlock = some r → A.heap.size ≤ r) :
    A'.cell? ⟨G, 3, none⟩ = some vq ∧ A'.frozen? ⟨G, 3, none⟩ = false ∧ CM W0 G H it w vn vb v' N B Q' (A'.setCell ⟨G, 3, none⟩ v') := by
  have hG : G < A.heap.size := World.block_lt_of_cell? A _ h.c0
  have hgh := h.gh
  have hr : ∀ r, row = some r → H ≤ r := fun r e => (h.oq.lt r (hrow r e)).1
  have hk : A'.heap[G]? = A.heap[G]? := hg.block G hG (fun e => by have := hr _ e.symm; omega)
  have kc : ∀ j, A'.cell? ⟨G, j, none⟩ = A.cell? ⟨G, j, none⟩ := fun j => World.cell?_of_block (a := ⟨G, j, none⟩) hk
  have kf : ∀ j, A'.frozen? ⟨G, j, none⟩ = A.frozen? ⟨G, j, none⟩ := fun j => World.frozen?_of_block (a := ⟨G, j, none⟩) hk
  have n1 := own_apart h.on hg (fun r e => (fun e2 => h.nq r e2 (hrow r e)))
  have b1 := own_apart h.ob hg (fun r e => (fun e2 => h.bq r e2 (hrow r e)))
  refine ⟨(kc 3).trans h.c3, (kf 3).trans (h.fz 3), ⟨(h.bel.grown hg (Nat.le_of_lt hG) (fun k e => by have := hr k e; omega)).setCell (p := ⟨G, 3, none⟩) (Nat.le_refl _) _, h.gh, Nat.le_trans h.sz (by simpa [World.setCell] using hg.size), ?_, ?_, ?_, ?_, ?_, ?_, ?_, ?_, h.nb, ?_, ?_, ?_⟩⟩
  · rw [World.cell?_setCell_other _ _ _ _ (by simp)]; exact (kc 0).trans h.c0
  · rw [World.cell?_setCell_other _ _ _ _ (by simp)]; exact (kc 1).trans h.c1
  · rw [World.cell?_setCell_other _ _ _ _ (by simp)]; exact (kc 2).trans h.c2
  · exact World.cell?_setCell_same _ _ _ ((kc 3).trans h.c3)
  · intro j; rw [World.frozen?_setCell]; exact (kf j).trans (h.fz j)
  · exact n1.setBelow (a := ⟨G, 3, none⟩) hgh _
  · exact b1.setBelow (a := ⟨G, 3, none⟩) hgh _
  · exact ho.setBelow (a := ⟨G, 3, none⟩) hgh _
  · intro r e e2
    rcases hor with e3 | e3
    · exact h.nq r e (e3 ▸ e2)
    · have := (h.on.lt _ e).2; have := e3 r e2; omega
  · intro r e e2
    rcases hor with e3 | e3
    · exact h.bq r e (e3 ▸ e2)
    · have := (h.ob.lt _ e).2; have := e3 r e2; omega
  · intro o e
    obtain ⟨h1, h2⟩ := h.ix o e
    refine ⟨h1, ?_⟩
    rw [heap_other _ _ _ _ (by simp)]
    exact (hg.block _ (Array.getElem?_eq_some_iff.1 h2).1 (fun e2 => by have := hr _ e2.symm; omega)).trans h2
end
end Go.Proofs.YtehmnohkfchljaaDoor.Ex
