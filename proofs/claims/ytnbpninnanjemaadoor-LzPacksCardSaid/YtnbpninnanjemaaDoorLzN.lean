/-
  PROVED HERE: the memory of lz.Pack, and what turns of it. Conditions: as each theorem states.
-/
import Derived.Test.YtnbpninnanjemaaDoorLzM
namespace Go.Proofs.YtnbpninnanjemaaDoor.Lz
open Go.RowKit Go.WideMaps Go.Maps Go.ChangeShapes Go.ChangeMaps Go.MapKept
open Go.WideElems (Fit rd rg pl rd_val elemAt)
/-- Whatever is neither of the two boxes nor a row of bytes is as it was. -/
structure Fr (H : Nat) (w w' : World) : Prop where
  os : w'.os = w.os
  tape : w'.tape = w.tape
  output : w'.output = w.output
  size : w.heap.size ≤ w'.heap.size
  block : ∀ i, i < w.heap.size → i ≠ H + 1 → i ≠ H + 2 → (∀ cs f, w.heap[i]? ≠ some (.cells cs 5 f)) → w'.heap[i]? = w.heap[i]?
theorem Fr.refl (H : Nat) (w : World) : Fr H w w := ⟨rfl, rfl, rfl, Nat.le_refl _, fun _ _ _ _ _ => rfl⟩
theorem Fr.trans {H : Nat} {a b c : World} (h : Fr H a b) (k : Fr H b c) : Fr H a c :=
  ⟨k.os.trans h.os, k.tape.trans h.tape, k.output.trans h.output, Nat.le_trans h.size k.size, fun i hi h1 h2 h3 => by
    have e := h.block i hi h1 h2 h3
    rw [k.block i (Nat.lt_of_lt_of_le hi h.size) h1 h2 (fun cs f => by rw [e]; exact h3 cs f), e]⟩
theorem Fr.below {H : Nat} {w w' : World} (hb : Below w.heap.size w w') : Fr H w w' := ⟨hb.os, hb.tape, hb.output, hb.size, fun i hi _ _ _ => hb.block i hi⟩
theorem Fr.setCell (H : Nat) (w : World) (a : Addr) (ha : a.block = H + 1 ∨ a.block = H + 2) (u : Value) : Fr H w (w.setCell a u) :=
  ⟨rfl, rfl, rfl, by simp [World.setCell], fun i _ h1 h2 _ => Below.heap_setCell w a u i (by omega)⟩
theorem Fr.grown {H : Nat} {w w' : World} {row : Option Nat} (hg : w.grownBy w' row) (hr : ∀ g, row = some g → ∃ cs f, w.heap[g]? = some (.cells cs 5 f)) : Fr H w w' :=
  ⟨hg.os, hg.tape, hg.output, hg.size, fun i hi _ _ h3 => hg.block i hi (fun e => by
    obtain ⟨cs, f, hc⟩ := hr i e.symm
    exact h3 cs f hc)⟩
theorem own_cells {w : World} {B E : Nat} {v : Value} {xs : List Value} (h : Own w B E v xs) : ∀ g, v.ownBlock = some g → ∃ cs f, w.heap[g]? = some (.cells cs E f) := fun g hg => by
  rcases h.2 with ⟨rfl, _⟩ | ⟨g', cap, cur, rfl, _, hh, _⟩
  · cases hg
  · have : g' = g := by simpa [Value.ownBlock] using hg
    subst this
    exact ⟨_, _, hh⟩
/-- The map of places behind the first n. -/
def Gs (H k n : Nat) (s : ByteArray) (w : World) : Prop := w.ownsGroups (H := Unit) Tryd.prog 9 (H + 3) 3 .i64 H k (G s n)
theorem gs_new (w : World) (s : ByteArray) : Gs w.heap.size 0 0 s (w.alloc (.map #[] 0)) :=
  ⟨#[], 0, (MapKept.heap_alloc w _).1, ⟨by simp, stamped_empty 0, by simp⟩, Nat.le_refl _, rfl, by omega, by simp, by simp⟩
theorem Gs.more {H k k' n : Nat} {s : ByteArray} {w : World} (h : Gs H k n s w) (hk : k ≤ k') : Gs H k' n s w := by
  obtain ⟨es, clock, h1, h2, h3, h4, h5, h6, h7⟩ := h
  exact ⟨es, clock, h1, h2, Nat.le_trans h3 hk, h4, h5, fun x hx zs ho => Nat.le_trans (h6 x hx zs ho) hk, h7⟩
theorem ints_fr {H : Nat} {w w' : World} {v : Value} {zs : List Int} (h : w.ownsInts (H + 3) 3 .i64 v zs) (hf : Fr H w w') : w'.ownsInts (H + 3) 3 .i64 v zs := by
  refine ⟨⟨h.1.1, ?_⟩, h.2⟩
  rcases h.1.2 with hn | ⟨g, cap, cur, rfl, hb, hg, rest⟩
  · exact .inl hn
  · refine .inr ⟨g, cap, cur, rfl, hb, ?_, rest⟩
    rw [hf.block g (Array.getElem?_eq_some_iff.1 hg).1 (by omega) (by omega) (fun cs f => by rw [hg]; intro e; injection e with e; injection e with _ e; cases e)]
    exact hg
set_option maxRecDepth 20000 in
theorem Gs.fr {H k n : Nat} {s : ByteArray} {w w' : World} (h : Gs H k n s w) (hf : Fr H w w') : Gs H k n s w' := by
  obtain ⟨es, clock, hb, F, hs, hD, hbb, hlen, hap⟩ := h
  have hst : ∀ x ∈ es.toList, ∀ z, rowElem (H := Unit) w (H + 3) 3 .i64 x.val = some z → rowElem w' (H + 3) 3 .i64 x.val = some z := fun x hx z hz => by
    obtain ⟨zs, ho, rfl⟩ := rowElem_inv hz
    exact rowElem_mk (ints_fr ho hf)
  obtain ⟨F1, hmap, _⟩ := F.stay hst
  refine ⟨es, clock, ?_, F1, hs, by rw [hmap]; exact hD, hbb, fun x hx zs ho => ?_, hap⟩
  · rw [hf.block H (Array.getElem?_eq_some_iff.1 hb).1 (by omega) (by omega) (fun cs f => by rw [hb]; intro e; injection e with e; cases e)]
    exact hb
  · obtain ⟨y, hy⟩ := F.reads x hx
    obtain ⟨z, hz, _⟩ := rd_val hy
    obtain ⟨zs0, ho0, _⟩ := rowElem_inv hz
    rw [ho.unique (ints_fr ho0 hf)]
    exact hlen x hx zs0 ho0
/-- The program's two lists behind their boxes. -/
def St (W : World) (H : Nat) (o p : List UInt8) (w : World) : Prop :=
  Below H W w ∧ H + 2 < w.heap.size ∧ ∃ vo vp, w.cell? ⟨H + 1, 0, none⟩ = some vo ∧ w.cell? ⟨H + 2, 0, none⟩ = some vp ∧ w.frozen? ⟨H + 1, 0, none⟩ = false ∧ w.frozen? ⟨H + 2, 0, none⟩ = false ∧
    Own w (H + 3) 5 vo (u8s o) ∧ Own w (H + 3) 5 vp (u8s p) ∧ ∀ k, vo.ownBlock = some k → vp.ownBlock ≠ some k
theorem St.below {W w w' : World} {H : Nat} {o p : List UInt8} (h : St W H o p w) (hb : Below w.heap.size w w') : St W H o p w' := by
  obtain ⟨h1, h2, vo, vp, h3, h4, h5, h6, h7, h8, h9⟩ := h
  exact ⟨h1.trans (hb.mono (by omega)), Nat.lt_of_lt_of_le h2 hb.size, vo, vp, keepCell hb h3, keepCell hb h4, keepFree hb h3 h5, keepFree hb h4 h6, h7.below hb, h8.below hb, h9⟩
theorem St.drew {W w : World} {H : Nat} {o p : List UInt8} (h : St W H o p w) : St W H o p w.drew := ⟨h.1.drew, h.2⟩
theorem St.drewN {W w : World} {H : Nat} {o p : List UInt8} (h : St W H o p w) (n : Nat) : St W H o p (w.drewN n) := ⟨below_drewN h.1 n, h.2⟩
/-- What a map's row and the map turn, leaves both. -/
theorem St.kept {W w w' : World} {H : Nat} {o p : List UInt8} (h : St W H o p w) {row : Option Nat} (hg : w.grownBy w' row) (hr : ∀ g, row = some g → H ≤ g ∧ g ≠ H + 1 ∧ g ≠ H + 2 ∧ ∀ cs f, w.heap[g]? ≠ some (.cells cs 5 f)) : St W H o p w' := by
  obtain ⟨h1, h2, vo, vp, h3, h4, h5, h6, h7, h8, h9⟩ := h
  have e1 : w'.heap[H + 1]? = w.heap[H + 1]? := hg.block _ (by omega) (fun e => (hr _ e.symm).2.1 rfl)
  have e2 : w'.heap[H + 2]? = w.heap[H + 2]? := hg.block _ (by omega) (fun e => (hr _ e.symm).2.2.1 rfl)
  have ne : ∀ v xs, Own w (H + 3) 5 v xs → v.ownBlock = none ∨ v.ownBlock ≠ row := fun v xs ho => by
    cases e : v.ownBlock with
    | none => exact .inl rfl
    | some g =>
      refine .inr fun e' => ?_
      obtain ⟨cs, f, hc⟩ := own_cells ho g e
      exact (hr g e'.symm).2.2.2 cs f hc
  refine ⟨h1.grown hg (by omega) (fun g e => (hr g e).1), Nat.lt_of_lt_of_le h2 hg.size, vo, vp, (World.cell?_of_block (a := ⟨H + 1, 0, none⟩) e1).trans h3, (World.cell?_of_block (a := ⟨H + 2, 0, none⟩) e2).trans h4, (World.frozen?_of_block (a := ⟨H + 1, 0, none⟩) e1).trans h5, (World.frozen?_of_block (a := ⟨H + 2, 0, none⟩) e2).trans h6, h7.keep hg (ne _ _ h7), h8.keep hg (ne _ _ h8), h9⟩
/-- The place of a store into a box. -/
theorem St.setO {W w : World} {H : Nat} {p : List UInt8} {vo vp : Value} {o' : List UInt8} (h1 : Below H W w) (h2 : H + 2 < w.heap.size) {v0 : Value} (h3 : w.cell? ⟨H + 1, 0, none⟩ = some v0) (h4 : w.cell? ⟨H + 2, 0, none⟩ = some vp) (h5 : w.frozen? ⟨H + 1, 0, none⟩ = false) (h6 : w.frozen? ⟨H + 2, 0, none⟩ = false)
    (h7 : Own w (H + 3) 5 vo (u8s o')) (h8 : Own w (H + 3) 5 vp (u8s p)) (h9 : ∀ k, vo.ownBlock = some k → vp.ownBlock ≠ some k) : St W H o' p (w.setCell ⟨H + 1, 0, none⟩ vo) := by
  refine ⟨h1.setCell (p := ⟨H + 1, 0, none⟩) (by simp) _, by simpa [World.setCell] using h2, vo, vp, World.cell?_setCell_same _ _ _ h3, (World.cell?_setCell_other _ _ _ _ (by intro hh; simp at hh)).trans h4, by rw [frozen?_setCell]; exact h5, by rw [frozen?_setCell]; exact h6, h7.setBelow (a := ⟨H + 1, 0, none⟩) (by simp) _, h8.setBelow (a := ⟨H + 1, 0, none⟩) (by simp) _, h9⟩
theorem St.setP {W w : World} {H : Nat} {o : List UInt8} {vo vp : Value} {p' : List UInt8} (h1 : Below H W w) (h2 : H + 2 < w.heap.size) {v0 : Value} (h3 : w.cell? ⟨H + 1, 0, none⟩ = some vo) (h4 : w.cell? ⟨H + 2, 0, none⟩ = some v0) (h5 : w.frozen? ⟨H + 1, 0, none⟩ = false) (h6 : w.frozen? ⟨H + 2, 0, none⟩ = false)
    (h7 : Own w (H + 3) 5 vo (u8s o)) (h8 : Own w (H + 3) 5 vp (u8s p')) (h9 : ∀ k, vo.ownBlock = some k → vp.ownBlock ≠ some k) : St W H o p' (w.setCell ⟨H + 2, 0, none⟩ vp) := by
  refine ⟨h1.setCell (p := ⟨H + 2, 0, none⟩) (by simp) _, by simpa [World.setCell] using h2, vo, vp, (World.cell?_setCell_other _ _ _ _ (by intro hh; simp at hh)).trans h3, World.cell?_setCell_same _ _ _ h4, by rw [frozen?_setCell]; exact h5, by rw [frozen?_setCell]; exact h6, h7.setBelow (a := ⟨H + 2, 0, none⟩) (by simp) _, h8.setBelow (a := ⟨H + 2, 0, none⟩) (by simp) _, h9⟩
/-- A row cut to nothing stays whose it was. -/
theorem own_cut0 {w : World} {B E : Nat} {a : Option Addr} {n c : Nat} {xs : List Value} (h : Own w B E (.slice a n c) xs) : Own w B E (.slice a 0 c) [] := by
  refine ⟨by simp, ?_⟩
  rcases h.2 with ⟨e, _⟩ | ⟨g, cap, cur, e, h1, h2, h3, h4, h5, h6⟩
  · simp only [Value.slice.injEq] at e
    obtain ⟨rfl, rfl, rfl⟩ := e
    exact .inl ⟨rfl, rfl⟩
  · simp only [Value.slice.injEq] at e
    obtain ⟨rfl, rfl, rfl⟩ := e
    exact .inr ⟨g, c, cur, rfl, h1, h2, by simp, h4, h5, by simp⟩
end Go.Proofs.YtnbpninnanjemaaDoor.Lz
