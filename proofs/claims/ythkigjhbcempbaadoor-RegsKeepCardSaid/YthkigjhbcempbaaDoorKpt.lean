/-
  PROVED HERE: a frame that names the blocks that may change, over any program. Conditions: as each theorem states.
-/
import Derived.Test.YthkigjhbcempbaaDoorOwn
namespace Go.Proofs.YthkigjhbcempbaaDoor
open Go.RowKit
/-- Of the blocks that were there, none but those of S has changed. -/
structure Keeps (S : Nat → Prop) (w w' : World) : Prop where
  os : w'.os = w.os
  tape : w'.tape = w.tape
  output : w'.output = w.output
  size : w.heap.size ≤ w'.heap.size
  block : ∀ k, k < w.heap.size → ¬ S k → w'.heap[k]? = w.heap[k]?
theorem Keeps.refl (S : Nat → Prop) (w : World) : Keeps S w w := ⟨rfl, rfl, rfl, Nat.le_refl _, fun _ _ _ => rfl⟩
/-- The second step may change what the first one may, and what is new. -/
theorem Keeps.trans {S S' : Nat → Prop} {w w1 w2 : World} (h : Keeps S w w1) (k : Keeps S' w1 w2) (hS : ∀ j, S' j → S j ∨ w.heap.size ≤ j) : Keeps S w w2 :=
  ⟨k.os.trans h.os, k.tape.trans h.tape, k.output.trans h.output, Nat.le_trans h.size k.size, fun j hj hn => (k.block j (Nat.lt_of_lt_of_le hj h.size) (fun hs => (hS j hs).elim hn (fun x => by omega))).trans (h.block j hj hn)⟩
theorem Keeps.below {S : Nat → Prop} {w w1 : World} (h : Below w.heap.size w w1) : Keeps S w w1 := ⟨h.os, h.tape, h.output, h.size, fun k hk _ => h.block k hk⟩
theorem Keeps.mono {S S' : Nat → Prop} {w w1 : World} (h : Keeps S w w1) (hS : ∀ j, S j → S' j) : Keeps S' w w1 := ⟨h.os, h.tape, h.output, h.size, fun k hk hn => h.block k hk (fun x => hn (hS k x))⟩
theorem Keeps.setCell {S : Nat → Prop} {w w1 : World} (h : Keeps S w w1) {p : Addr} (hp : S p.block ∨ w.heap.size ≤ p.block) (u : Value) : Keeps S w (w1.setCell p u) :=
  ⟨h.os, h.tape, h.output, by simp [World.setCell]; exact h.size, fun k hk hn => (Below.heap_setCell _ _ _ _ (fun e => by subst e; exact hp.elim hn (fun x => by omega))).trans (h.block k hk hn)⟩
theorem Keeps.alloc {S : Nat → Prop} {w w1 : World} (h : Keeps S w w1) (o : Obj) : Keeps S w (w1.alloc o) :=
  h.trans (S' := S) (Keeps.below ((Below.refl _ _).alloc (Nat.le_refl _) o)) (fun _ x => .inl x)
theorem Keeps.drew {S : Nat → Prop} {w w1 : World} (h : Keeps S w w1) : Keeps S w w1.drew := ⟨h.os, h.tape, h.output, h.size, h.block⟩
theorem Keeps.drewN {S : Nat → Prop} {w w1 : World} (h : Keeps S w w1) (n : Nat) : Keeps S w (w1.drewN n) := ⟨h.os, h.tape, h.output, h.size, h.block⟩
theorem Keeps.grown {S : Nat → Prop} {w w1 w2 : World} (h : Keeps S w w1) {row : Option Nat} (hg : w1.grownBy w2 row) (hr : ∀ k, row = some k → S k ∨ w.heap.size ≤ k) : Keeps S w w2 :=
  h.trans (S' := fun k => row = some k) ⟨hg.os, hg.tape, hg.output, hg.size, fun k hk hn => hg.block k hk (fun e => hn e.symm)⟩ hr
theorem Keeps.cell {S : Nat → Prop} {w w1 : World} (h : Keeps S w w1) {p : Addr} {u : Value} (hn : ¬ S p.block) (hc : w.cell? p = some u) : w1.cell? p = some u :=
  (World.cell?_of_block (w := w) (h.block p.block (World.block_lt_of_cell? w p hc) hn)).trans hc
theorem Keeps.frozen {S : Nat → Prop} {w w1 : World} (h : Keeps S w w1) {p : Addr} {u : Value} {f : Bool} (hn : ¬ S p.block) (hc : w.cell? p = some u) (hf : w.frozen? p = f) : w1.frozen? p = f :=
  (World.frozen?_of_block (w := w) (h.block p.block (World.block_lt_of_cell? w p hc) hn)).trans hf
/-- To a world as it was at first: what was there then has not changed, if S lies behind it. -/
theorem Keeps.toBelow {S : Nat → Prop} {w w1 : World} (h : Keeps S w w1) (B : Nat) (hB : B ≤ w.heap.size) (hS : ∀ k, S k → B ≤ k) : Below B w w1 := ⟨h.os, h.tape, h.output, h.size, fun k hk => h.block k (by omega) (fun x => by have := hS k x; omega)⟩
theorem Keeps.ownsRow {S : Nat → Prop} {w w1 : World} (h : Keeps S w w1) {B E n m : Nat} {v : Value} {xs : List Value} (hn : ∀ k, v.ownBlock = some k → ¬ S k) (ho : w.ownsRow B E m v n xs) : w1.ownsRow B E m v n xs := by
  refine ⟨ho.1, ?_⟩
  rcases ho.2 with h0 | ⟨g, cap, cur, rfl, hb, hg, rest⟩
  · exact .inl h0
  · refine .inr ⟨g, cap, cur, rfl, hb, ?_, rest⟩
    rw [h.block g (Array.getElem?_eq_some_iff.1 hg).1 (hn g rfl)]
    exact hg
end Go.Proofs.YthkigjhbcempbaaDoor
