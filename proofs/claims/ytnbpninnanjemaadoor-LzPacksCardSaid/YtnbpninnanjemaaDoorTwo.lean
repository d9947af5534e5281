/-
  PROVED HERE: two lists of the call's own that grow side by side in one statement, over any program. Conditions: as each theorem states.
-/
import Derived.Test.YtnbpninnanjemaaDoorOwn
namespace Go.Proofs.YtnbpninnanjemaaDoor
open Go.RowKit
/-- A literal that was laid for a list, and waits for its append: block g holds x, and is neither list's. -/
def Lit (w : World) (v u : Value) : Option (Nat × Value) → Prop
  | none => True
  | some (g, x) => w.cell? ⟨g, 0, none⟩ = some x ∧ v.ownBlock ≠ some g ∧ u.ownBlock ≠ some g
/-- Two lists, and the literals that wait. -/
def Two (W w : World) (B E F : Nat) (v : Value) (xs : List Value) (u : Value) (ys : List Value) (p q : Option (Nat × Value)) : Prop :=
  Own w B E v xs ∧ Own w B F u ys ∧ (∀ k, v.ownBlock = some k → u.ownBlock ≠ some k) ∧ B ≤ w.heap.size ∧ Below B W w ∧ Lit w v u p ∧ Lit w v u q
theorem Lit.alloc {w : World} {v u : Value} {p : Option (Nat × Value)} (h : Lit w v u p) (o : Obj) : Lit (w.alloc o) v u p := by
  rcases p with _ | ⟨g, x⟩
  · trivial
  · exact ⟨(World.cell?_alloc_lt _ _ _ (World.block_lt_of_cell? _ _ h.1)).trans h.1, h.2.1, h.2.2⟩
theorem Two.drew {W w : World} {B E F : Nat} {v u : Value} {xs ys : List Value} {p q : Option (Nat × Value)} (h : Two W w B E F v xs u ys p q) : Two W w.drew B E F v xs u ys p q :=
  ⟨h.1.drew, h.2.1.drew, h.2.2.1, h.2.2.2.1, h.2.2.2.2.1.drew, h.2.2.2.2.2⟩
theorem Two.alloc {W w : World} {B E F : Nat} {v u : Value} {xs ys : List Value} {p q : Option (Nat × Value)} (h : Two W w B E F v xs u ys p q) (o : Obj) : Two W (w.alloc o) B E F v xs u ys p q :=
  ⟨h.1.alloc o, h.2.1.alloc o, h.2.2.1, by have := h.2.2.2.1; simp; omega, h.2.2.2.2.1.alloc h.2.2.2.1 o, h.2.2.2.2.2.1.alloc o, h.2.2.2.2.2.2.alloc o⟩
theorem Two.below {W w w' : World} {B E F : Nat} {v u : Value} {xs ys : List Value} (h : Two W w B E F v xs u ys none none) (hB : Below w.heap.size w w') : Two W w' B E F v xs u ys none none :=
  ⟨h.1.below hB, h.2.1.below hB, h.2.2.1, Nat.le_trans h.2.2.2.1 hB.size, h.2.2.2.2.1.trans (hB.mono h.2.2.2.1), trivial, trivial⟩
theorem lit_new {w : World} {B E F : Nat} {v u : Value} {xs ys : List Value} (h1 : Own w B E v xs) (h2 : Own w B F u ys) (x : Value) (T : Nat) : Lit (w.alloc (.cells #[x] T)) v u (some (w.heap.size, x)) :=
  ⟨new_cell _ _ _, fun e => absurd (h1.lt _ e).2 (Nat.lt_irrefl _), fun e => absurd (h2.lt _ e).2 (Nat.lt_irrefl _)⟩
theorem Two.lay1 {W w : World} {B E F : Nat} {v u : Value} {xs ys : List Value} {q : Option (Nat × Value)} (h : Two W w B E F v xs u ys none q) (x : Value) (T : Nat) : Two W (w.alloc (.cells #[x] T)) B E F v xs u ys (some (w.heap.size, x)) q :=
  have h' := h.alloc (.cells #[x] T)
  ⟨h'.1, h'.2.1, h'.2.2.1, h'.2.2.2.1, h'.2.2.2.2.1, lit_new h.1 h.2.1 x T, h'.2.2.2.2.2.2⟩
theorem Two.lay2 {W w : World} {B E F : Nat} {v u : Value} {xs ys : List Value} {p : Option (Nat × Value)} (h : Two W w B E F v xs u ys p none) (x : Value) (T : Nat) : Two W (w.alloc (.cells #[x] T)) B E F v xs u ys p (some (w.heap.size, x)) :=
  have h' := h.alloc (.cells #[x] T)
  ⟨h'.1, h'.2.1, h'.2.2.1, h'.2.2.2.1, h'.2.2.2.2.1, h'.2.2.2.2.2.1, lit_new h.1 h.2.1 x T⟩
theorem lit_kept {w w' : World} {v u v' u' : Value} {p : Option (Nat × Value)} {row : Option Nat} (h : Lit w v u p) (hg : w.grownBy w' row) (hr : ∀ g, p.map (·.1) = some g → row ≠ some g)
    (hv : ∀ g, g < w.heap.size → v'.ownBlock = some g → v.ownBlock = some g) (hu : ∀ g, g < w.heap.size → u'.ownBlock = some g → u.ownBlock = some g) : Lit w' v' u' p := by
  rcases p with _ | ⟨g, x⟩
  · trivial
  · have hl := World.block_lt_of_cell? _ _ h.1
    exact ⟨(World.cell?_of_block (w := w) (a := ⟨g, 0, none⟩) (hg.block g hl (hr g rfl ∘ Eq.symm))).trans h.1, fun e => h.2.1 (hv g hl e), fun e => h.2.2 (hu g hl e)⟩
theorem Two.app1 {W w w' : World} {B E F : Nat} {v u v' : Value} {xs ys : List Value} {g : Nat} {x : Value} {q : Option (Nat × Value)} (h : Two W w B E F v xs u ys (some (g, x)) q)
    (ho : Own w' B E v' (xs ++ [x])) (hg : w.grownBy w' v.ownBlock) (hb : Below B w w') (ha : v'.ownBlock = v.ownBlock ∨ v'.ownBlock = some w.heap.size) : Two W w' B E F v' (xs ++ [x]) u ys none q := by
  obtain ⟨h1, h2, h3, h4, h5, h6, h7⟩ := h
  have hne : u.ownBlock = none ∨ u.ownBlock ≠ v.ownBlock := by
    cases e : u.ownBlock with
    | none => exact .inl rfl
    | some k => exact .inr (fun e' => h3 k e'.symm e)
  refine ⟨ho, h2.keep hg hne, fun k e e' => ?_, Nat.le_trans h4 hg.size, h5.trans hb, trivial, lit_kept h7 hg (fun k e e' => ?_) (fun k hk e => ?_) (fun k _ e => e)⟩
  · rcases ha with a | a
    · exact h3 k (a ▸ e) e'
    · rw [a] at e; injection e with e; subst e; exact absurd (h2.lt _ e').2 (Nat.lt_irrefl _)
  · rcases q with _ | ⟨k', x'⟩
    · cases e
    · injection e with e; subst e; exact h7.2.1 e'
  · rcases ha with a | a
    · exact a ▸ e
    · rw [a] at e; injection e with e; omega
theorem Two.app2 {W w w' : World} {B E F : Nat} {v u u' : Value} {xs ys : List Value} {g : Nat} {x : Value} {p : Option (Nat × Value)} (h : Two W w B E F v xs u ys p (some (g, x)))
    (ho : Own w' B F u' (ys ++ [x])) (hg : w.grownBy w' u.ownBlock) (hb : Below B w w') (ha : u'.ownBlock = u.ownBlock ∨ u'.ownBlock = some w.heap.size) : Two W w' B E F v xs u' (ys ++ [x]) p none := by
  obtain ⟨h1, h2, h3, h4, h5, h6, h7⟩ := h
  have hne : v.ownBlock = none ∨ v.ownBlock ≠ u.ownBlock := by
    cases e : v.ownBlock with
    | none => exact .inl rfl
    | some k => exact .inr (fun e' => h3 k e e'.symm)
  refine ⟨h1.keep hg hne, ho, fun k e e' => ?_, Nat.le_trans h4 hg.size, h5.trans hb, lit_kept h6 hg (fun k e e' => ?_) (fun k _ e => e) (fun k hk e => ?_), trivial⟩
  · rcases ha with a | a
    · exact h3 k e (a ▸ e')
    · rw [a] at e'; injection e' with e'; subst e'; exact absurd (h1.lt _ e).2 (Nat.lt_irrefl _)
  · rcases p with _ | ⟨k', x'⟩
    · cases e
    · injection e with e; subst e; exact h6.2.2 e'
  · rcases ha with a | a
    · exact a ▸ e
    · rw [a] at e; injection e with e; omega
section
variable {P : Program} {w : World}
/-- The first list's append, at a step of a region that draws its order. -/
theorem two_step1 {ops : Array Oper} {o : Oper} {a : Act} {K : Act → World → Prop} {Q : Exit → Act → World → Prop} {FF : Prop} (hgd : o.guard = none) (s y : Operand) (t : TypeId)
    (ho : o.op = .call { callee := .builtin .append, args := #[s, y], argTypes := #[t, t] })
    {W : World} {B E F : Nat} (z : Value) (bytes : Nat) (ht : P.underlying t = some (.slice E)) (hinfo : (P.info? E).map (fun i => (i.zero, i.size, i.bytes)) = some (some z, 1, bytes)) (hzs : z.cells.size = 1)
    {v u : Value} {xs ys : List Value} {g : Nat} {x : Value} {q : Option (Nat × Value)} (hT : Two W w B E F v xs u ys (some (g, x)) q) (hs : a.eval s = v) (c : Nat) (hx : a.eval y = .slice (some ⟨g, 0, none⟩) 1 c) (h1 : x.oneCell' = true)
    (hlen : (xs.length + 1) * bytes ≤ 1000000000000) (hlen2 : xs.length + 1 ≤ 1000000000000)
    (h : ∀ v' w', Two W w' B E F v' (xs ++ [x]) u ys none q → K (a.put o.dst v') w') :
    if Region.wanted o (yielded ops a.tmps) = true then Oper.wp P o a w K Q else FF :=
  own_append_step hgd s y t ho B E z bytes ht hinfo hzs v xs hs hT.1 ⟨g, 0, none⟩ 1 c [x] hx rfl (fun j u' hj => by
    rcases j with _ | j
    · simp at hj; subst hj; rw [Addr.add_mid]; exact hT.2.2.2.2.2.1.1
    · simp at hj) (fun u' hu => by rw [List.mem_singleton.1 hu]; exact h1) hlen hlen2 hT.2.2.2.1 (fun v' w' a b c d => h v' w' (hT.app1 a b c d))
theorem two_step2 {ops : Array Oper} {o : Oper} {a : Act} {K : Act → World → Prop} {Q : Exit → Act → World → Prop} {FF : Prop} (hgd : o.guard = none) (s y : Operand) (t : TypeId)
    (ho : o.op = .call { callee := .builtin .append, args := #[s, y], argTypes := #[t, t] })
    {W : World} {B E F : Nat} (z : Value) (bytes : Nat) (ht : P.underlying t = some (.slice F)) (hinfo : (P.info? F).map (fun i => (i.zero, i.size, i.bytes)) = some (some z, 1, bytes)) (hzs : z.cells.size = 1)
    {v u : Value} {xs ys : List Value} {g : Nat} {x : Value} {p : Option (Nat × Value)} (hT : Two W w B E F v xs u ys p (some (g, x))) (hs : a.eval s = u) (c : Nat) (hx : a.eval y = .slice (some ⟨g, 0, none⟩) 1 c) (h1 : x.oneCell' = true)
    (hlen : (ys.length + 1) * bytes ≤ 1000000000000) (hlen2 : ys.length + 1 ≤ 1000000000000)
    (h : ∀ v' w', Two W w' B E F v xs v' (ys ++ [x]) p none → K (a.put o.dst v') w') :
    if Region.wanted o (yielded ops a.tmps) = true then Oper.wp P o a w K Q else FF :=
  own_append_step hgd s y t ho B F z bytes ht hinfo hzs u ys hs hT.2.1 ⟨g, 0, none⟩ 1 c [x] hx rfl (fun j u' hj => by
    rcases j with _ | j
    · simp at hj; subst hj; rw [Addr.add_mid]; exact hT.2.2.2.2.2.2.1
    · simp at hj) (fun u' hu => by rw [List.mem_singleton.1 hu]; exact h1) hlen hlen2 hT.2.2.2.1 (fun v' w' a b c d => h v' w' (hT.app2 a b c d))
/-- The first list's append, where the order stands. -/
theorem two_app1 {ops : Array Oper} {rest : List Oper} {o : Oper} {a : Act} {Q : Exit → Act → World → Prop} (hgd : o.guard = none) (s y : Operand) (t : TypeId)
    (ho : o.op = .call { callee := .builtin .append, args := #[s, y], argTypes := #[t, t] })
    {W : World} {B E F : Nat} (z : Value) (bytes : Nat) (ht : P.underlying t = some (.slice E)) (hinfo : (P.info? E).map (fun i => (i.zero, i.size, i.bytes)) = some (some z, 1, bytes)) (hzs : z.cells.size = 1)
    {v u : Value} {xs ys : List Value} {g : Nat} {x : Value} {q : Option (Nat × Value)} (hT : Two W w B E F v xs u ys (some (g, x)) q) (hs : a.eval s = v) (c : Nat) (hx : a.eval y = .slice (some ⟨g, 0, none⟩) 1 c) (h1 : x.oneCell' = true)
    (hlen : (xs.length + 1) * bytes ≤ 1000000000000) (hlen2 : xs.length + 1 ≤ 1000000000000)
    (h : ∀ v' w', Two W w' B E F v' (xs ++ [x]) u ys none q → wpList P ops Q rest (a.put o.dst v') w') : wpList P ops Q (o :: rest) a w :=
  own_append hgd s y t ho B E z bytes ht hinfo hzs v xs hs hT.1 ⟨g, 0, none⟩ 1 c [x] hx rfl (fun j u' hj => by
    rcases j with _ | j
    · simp at hj; subst hj; rw [Addr.add_mid]; exact hT.2.2.2.2.2.1.1
    · simp at hj) (fun u' hu => by rw [List.mem_singleton.1 hu]; exact h1) hlen hlen2 hT.2.2.2.1 (fun v' w' a b c d => h v' w' (hT.app1 a b c d))
theorem two_app2 {ops : Array Oper} {rest : List Oper} {o : Oper} {a : Act} {Q : Exit → Act → World → Prop} (hgd : o.guard = none) (s y : Operand) (t : TypeId)
    (ho : o.op = .call { callee := .builtin .append, args := #[s, y], argTypes := #[t, t] })
    {W : World} {B E F : Nat} (z : Value) (bytes : Nat) (ht : P.underlying t = some (.slice F)) (hinfo : (P.info? F).map (fun i => (i.zero, i.size, i.bytes)) = some (some z, 1, bytes)) (hzs : z.cells.size = 1)
    {v u : Value} {xs ys : List Value} {g : Nat} {x : Value} {p : Option (Nat × Value)} (hT : Two W w B E F v xs u ys p (some (g, x))) (hs : a.eval s = u) (c : Nat) (hx : a.eval y = .slice (some ⟨g, 0, none⟩) 1 c) (h1 : x.oneCell' = true)
    (hlen : (ys.length + 1) * bytes ≤ 1000000000000) (hlen2 : ys.length + 1 ≤ 1000000000000)
    (h : ∀ v' w', Two W w' B E F v xs v' (ys ++ [x]) p none → wpList P ops Q rest (a.put o.dst v') w') : wpList P ops Q (o :: rest) a w :=
  own_append hgd s y t ho B F z bytes ht hinfo hzs u ys hs hT.2.1 ⟨g, 0, none⟩ 1 c [x] hx rfl (fun j u' hj => by
    rcases j with _ | j
    · simp at hj; subst hj; rw [Addr.add_mid]; exact hT.2.2.2.2.2.2.1
    · simp at hj) (fun u' hu => by rw [List.mem_singleton.1 hu]; exact h1) hlen hlen2 hT.2.2.2.1 (fun v' w' a b c d => h v' w' (hT.app2 a b c d))
end
end Go.Proofs.YtnbpninnanjemaaDoor
