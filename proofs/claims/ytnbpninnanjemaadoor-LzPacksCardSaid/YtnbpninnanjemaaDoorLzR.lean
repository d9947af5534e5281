/-
  PROVED HERE: what a round of lz.Pack turns of its memory. Conditions: as each theorem states.
-/
import Derived.Test.YtnbpninnanjemaaDoorLzO
import Derived.Test.YtnbpninnanjemaaDoorLzQ
namespace Go.Proofs.YtnbpninnanjemaaDoor.Lz
open Go.RowKit Go.WideMaps Go.Maps Go.ChangeShapes Go.ChangeMaps Go.MapKept
theorem gs_next {H k n : Nat} {s : ByteArray} {w : World} {zs : List Int} (h3 : n + 3 ≤ s.size) (hz : zs = posI s n n)
    (h : w.ownsGroups (H := Unit) Tryd.prog 9 (H + 3) 3 .i64 H (k + 1) ((G s n).put (.string (key s n)) (.slice (lits .i64 (zs ++ [(n : Int)])) []))) : Gs H (k + 1) (n + 1) s w := by
  unfold Gs
  rw [G, if_pos h3]
  have e : posI s (n + 1) n = zs ++ [(n : Int)] := by
    rw [hz]
    unfold posI
    rw [pos_succ, if_pos ⟨h3, rfl, rfl, rfl⟩, List.map_append]
    rfl
  rw [e]
  exact h
theorem gs_same {H k n : Nat} {s : ByteArray} {w : World} (h3 : s.size < n + 3) (h : Gs H k n s w) : Gs H (k + 1) (n + 1) s w := by
  unfold Gs
  rw [G, if_neg (by omega)]
  exact h.more (Nat.le_succ k)
theorem upd_st {W wr w1 w2 : World} {H k n : Nat} {s : ByteArray} {o p : List UInt8} {v : Value} {zs : List Int} (hS : St W H o p wr) (hG : Gs H k n s wr) (ho : wr.ownsInts (H + 3) 3 .i64 v zs)
    (hall : wr.grownBy w1 v.ownBlock) (h2 : w1.grownBy w2 (some H)) : St W H o p w2 := by
  obtain ⟨es, clock, hb, _⟩ := hG
  have hlt : H < wr.heap.size := (Array.getElem?_eq_some_iff.1 hb).1
  have hrow : ∀ g, v.ownBlock = some g → H + 3 ≤ g ∧ ∃ cur, wr.heap[g]? = some (.cells cur 3 (0, 0)) := fun g hg => by
    rcases ho.1.2 with ⟨rfl, _⟩ | ⟨g', cap, cur, rfl, h1, h3, _⟩
    · cases hg
    · have : g' = g := by simpa [Value.ownBlock] using hg
      subst this
      exact ⟨h1, cur, h3⟩
  have hS1 : St W H o p w1 := hS.kept hall (fun g hg => by
    obtain ⟨q1, cur, q2⟩ := hrow g hg
    exact ⟨by omega, by omega, by omega, fun cs f e => by rw [q2] at e; injection e with e; injection e with _ e; cases e⟩)
  have hb1 : w1.heap[H]? = some (.map es clock) := (hall.block H hlt (fun e => by have := (hrow H e.symm).1; omega)).trans hb
  exact hS1.kept h2 (fun g hg => by
    injection hg with hg
    subst hg
    exact ⟨Nat.le_refl _, by omega, by omega, fun cs f e => by rw [hb1] at e; injection e with e; cases e⟩)
theorem st_new (W : World) : St W W.heap.size [] [] (((W.alloc (.map #[] 0)).alloc (.cells #[.slice none 0 0] 41)).alloc (.cells #[.slice none 0 0] 41)) := by
  refine ⟨(((Below.refl _ _).alloc (Nat.le_refl _) _).alloc (by simp) _).alloc (by simp; omega) _, by simp, .slice none 0 0, .slice none 0 0, ?_, ?_, ?_, ?_, own_nil _ _ _, own_nil _ _ _, fun k h => by cases h⟩
  · rw [World.cell?_alloc_past _ _ _ (by simp), World.cell?_alloc_at _ _ _ _ (by simp)]; rfl
  · rw [World.cell?_alloc_at _ _ _ _ (by simp)]; rfl
  · rw [World.frozen?_alloc_past _ _ _ (by simp), World.frozen?_alloc_at _ _ _ _ (by simp)]
  · rw [World.frozen?_alloc_at _ _ _ _ (by simp)]
theorem gs_start (W : World) (s : ByteArray) : Gs W.heap.size 0 0 s (((W.alloc (.map #[] 0)).alloc (.cells #[.slice none 0 0] 41)).alloc (.cells #[.slice none 0 0] 41)) :=
  ((gs_new W s).fr (Fr.below ((Below.refl _ _).alloc (Nat.le_refl _) _))).fr (Fr.below ((Below.refl _ _).alloc (Nat.le_refl _) _))
/-- One byte more waits. -/
theorem st_byte {W w w1 : World} {H : Nat} {o p : List UInt8} {vo vp v' : Value} {x : UInt8} (h1 : Below H W w) (h2 : H + 2 < w.heap.size) (c5 : w.cell? ⟨H + 1, 0, none⟩ = some vo) (c6 : w.cell? ⟨H + 2, 0, none⟩ = some vp) (f5 : w.frozen? ⟨H + 1, 0, none⟩ = false) (f6 : w.frozen? ⟨H + 2, 0, none⟩ = false)
    (o5 : Own w (H + 3) 5 vo (u8s o)) (o6 : Own w (H + 3) 5 vp (u8s p)) (hd : ∀ k, vo.ownBlock = some k → vp.ownBlock ≠ some k)
    (ho : Own w1 (H + 3) 5 v' (u8s p ++ [.int .u8 (x.toNat : Int)])) (hg : w.grownBy w1 vp.ownBlock) (hat : v'.ownBlock = vp.ownBlock ∨ ∃ g, v'.ownBlock = some g ∧ w.heap.size ≤ g) :
    St W H o (p ++ [x]) (w1.setCell ⟨H + 2, 0, none⟩ v') ∧ Fr H w (w1.setCell ⟨H + 2, 0, none⟩ v') := by
  have hne : ∀ g, vp.ownBlock = some g → H + 3 ≤ g := fun g hg => (o6.lt g hg).1
  have e1 : w1.heap[H + 1]? = w.heap[H + 1]? := hg.block _ (by omega) (fun e => by have := hne _ e.symm; omega)
  have e2 : w1.heap[H + 2]? = w.heap[H + 2]? := hg.block _ (by omega) (fun e => by have := hne _ e.symm; omega)
  have k5 := (World.cell?_of_block (a := ⟨H + 1, 0, none⟩) e1).trans c5
  have k6 := (World.cell?_of_block (a := ⟨H + 2, 0, none⟩) e2).trans c6
  have hB : Below H W w1 := h1.grown hg (by omega) (fun g e => by have := hne g e; omega)
  have o5' : Own w1 (H + 3) 5 vo (u8s o) := o5.keep hg (by
    cases e : vo.ownBlock with
    | none => exact .inl rfl
    | some g => exact .inr (fun e' => hd g e e'.symm))
  have hd' : ∀ k, vo.ownBlock = some k → v'.ownBlock ≠ some k := fun k e e' => by
    rcases hat with a | ⟨g, a, b⟩
    · exact hd k e (a ▸ e')
    · rw [a] at e'
      injection e' with e'
      subst e'
      have := (o5.lt _ e).2
      omega
  rw [u8s_snoc] at ho
  exact ⟨St.setP hB (Nat.lt_of_lt_of_le h2 hg.size) k5 k6 ((World.frozen?_of_block (a := ⟨H + 1, 0, none⟩) e1).trans f5) ((World.frozen?_of_block (a := ⟨H + 2, 0, none⟩) e2).trans f6) o5' ho hd',
    (Fr.grown hg (own_cells o6)).trans (Fr.setCell H w1 _ (.inr rfl) _)⟩
/-- Three bytes more are told. -/
theorem st_three {W w w1 : World} {H : Nat} {o p : List UInt8} {vo vp v' : Value} {l : List UInt8} (h1 : Below H W w) (h2 : H + 2 < w.heap.size) (c5 : w.cell? ⟨H + 1, 0, none⟩ = some vo) (c6 : w.cell? ⟨H + 2, 0, none⟩ = some vp) (f5 : w.frozen? ⟨H + 1, 0, none⟩ = false) (f6 : w.frozen? ⟨H + 2, 0, none⟩ = false)
    (o5 : Own w (H + 3) 5 vo (u8s o)) (o6 : Own w (H + 3) 5 vp (u8s p)) (hd : ∀ k, vo.ownBlock = some k → vp.ownBlock ≠ some k)
    (ho : Own w1 (H + 3) 5 v' (u8s (o ++ l))) (hg : w.grownBy w1 vo.ownBlock) (hat : v'.ownBlock = vo.ownBlock ∨ ∃ g, v'.ownBlock = some g ∧ w.heap.size ≤ g) :
    St W H (o ++ l) p (w1.setCell ⟨H + 1, 0, none⟩ v') ∧ Fr H w (w1.setCell ⟨H + 1, 0, none⟩ v') := by
  have hne : ∀ g, vo.ownBlock = some g → H + 3 ≤ g := fun g hg => (o5.lt g hg).1
  have e1 : w1.heap[H + 1]? = w.heap[H + 1]? := hg.block _ (by omega) (fun e => by have := hne _ e.symm; omega)
  have e2 : w1.heap[H + 2]? = w.heap[H + 2]? := hg.block _ (by omega) (fun e => by have := hne _ e.symm; omega)
  have k5 := (World.cell?_of_block (a := ⟨H + 1, 0, none⟩) e1).trans c5
  have k6 := (World.cell?_of_block (a := ⟨H + 2, 0, none⟩) e2).trans c6
  have hB : Below H W w1 := h1.grown hg (by omega) (fun g e => by have := hne g e; omega)
  have o6' : Own w1 (H + 3) 5 vp (u8s p) := o6.keep hg (by
    cases e : vp.ownBlock with
    | none => exact .inl rfl
    | some g => exact .inr (fun e' => hd g e'.symm e))
  have hd' : ∀ k, v'.ownBlock = some k → vp.ownBlock ≠ some k := fun k e e' => by
    rcases hat with a | ⟨g, a, b⟩
    · exact hd k (a ▸ e) e'
    · rw [a] at e
      injection e with e
      subst e
      have := (o6.lt _ e').2
      omega
  exact ⟨St.setO hB (Nat.lt_of_lt_of_le h2 hg.size) k5 k6 ((World.frozen?_of_block (a := ⟨H + 1, 0, none⟩) e1).trans f5) ((World.frozen?_of_block (a := ⟨H + 2, 0, none⟩) e2).trans f6) ho o6' hd',
    (Fr.grown hg (own_cells o5)).trans (Fr.setCell H w1 _ (.inl rfl) _)⟩
end Go.Proofs.YtnbpninnanjemaaDoor.Lz
