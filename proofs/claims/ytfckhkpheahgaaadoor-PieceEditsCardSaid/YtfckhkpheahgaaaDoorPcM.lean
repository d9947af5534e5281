/-
  PROVED HERE: trees of pieces while two lists beside them grow. Conditions: as each theorem states.
-/
import Derived.Test.YtfckhkpheahgaaaDoorPcK
import Derived.Test.YtfckhkpheahgaaaDoorTwo
import Derived.Test.YtfckhkpheahgaaaDoorChs
namespace Go.Proofs.YtfckhkpheahgaaaDoor.Pc
open Go.RowKit
/-- All blocks of w but two are in w' as they were. -/
def Kp (w w' : World) (r1 r2 : Option Nat) : Prop := w.heap.size ≤ w'.heap.size ∧ ∀ k, k < w.heap.size → some k ≠ r1 → some k ≠ r2 → w'.heap[k]? = w.heap[k]?
theorem Kp.refl (w : World) (r1 r2 : Option Nat) : Kp w w r1 r2 := ⟨Nat.le_refl _, fun _ _ _ _ => rfl⟩
theorem Kp.drew {w w' : World} {r1 r2 : Option Nat} (h : Kp w w' r1 r2) : Kp w w'.drew r1 r2 := h
theorem Kp.alloc {w w' : World} {r1 r2 : Option Nat} (h : Kp w w' r1 r2) (o : Obj) : Kp w (w'.alloc o) r1 r2 :=
  ⟨by have := h.1; simp; omega, fun k hk h1 h2 => (Below.heap_alloc w' o k (by have := h.1; omega)).trans (h.2 k hk h1 h2)⟩
theorem Kp.grown {w w' w2 : World} {r1 r2 row : Option Nat} (h : Kp w w' r1 r2) (hg : w'.grownBy w2 row) (hr : row = r1 ∨ row = r2) : Kp w w2 r1 r2 :=
  ⟨Nat.le_trans h.1 hg.size, fun k hk h1 h2 => (hg.block k (by have := h.1; omega) (by rcases hr with e | e <;> rw [e] <;> assumption)).trans (h.2 k hk h1 h2)⟩
theorem Kp.cell {w w' : World} {r1 r2 : Option Nat} (h : Kp w w' r1 r2) {a : Addr} {x : Value} (hc : w.cell? a = some x) (h1 : some a.block ≠ r1) (h2 : some a.block ≠ r2) : w'.cell? a = some x :=
  (World.cell?_of_block (h.2 _ (World.block_lt_of_cell? w a hc) h1 h2)).trans hc
/-- No node of a tree lies there. -/
def NoNode (w : World) (r : Option Nat) : Prop := ∀ g, r = some g → ∀ t n, ¬ (w.cell? ⟨g, 0, none⟩ = some (.string t) ∧ w.cell? ⟨g, 1, none⟩ = some (.int .i64 n))
theorem IsT.kp {w w' : World} {r1 r2 : Option Nat} (hk : Kp w w' r1 r2) (n1 : NoNode w r1) (n2 : NoNode w r2) : ∀ {v : Value} {T : Tr}, IsT w v T → IsT w' v T
  | _, .nil, h => h
  | _, .node _ _ _, ⟨b, vl, vr, e, c0, c1, c2, c3, c4, hl, hr⟩ => by
    have e1 : some b ≠ r1 := fun e => n1 b e.symm _ _ ⟨c0, c1⟩
    have e2 : some b ≠ r2 := fun e => n2 b e.symm _ _ ⟨c0, c1⟩
    exact ⟨b, vl, vr, e, hk.cell c0 e1 e2, hk.cell c1 e1 e2, hk.cell c2 e1 e2, hk.cell c3 e1 e2, hk.cell c4 e1 e2, hl.kp hk n1 n2, hr.kp hk n1 n2⟩
theorem Has.kp {w w' : World} {r1 r2 : Option Nat} {v : Value} {s : List UInt8} (h : Has w v s) (hk : Kp w w' r1 r2) (n1 : NoNode w r1) (n2 : NoNode w r2) : Has w' v s := by
  obtain ⟨T, a, b, c⟩ := h
  exact ⟨T, a.kp hk n1 n2, b, c⟩
def strs (L : List (ByteArray × Option Addr)) : List Value := L.map fun z => .string z.1
def ptrs (L : List (ByteArray × Option Addr)) : List Value := L.map fun z => .pointer z.2
theorem strs_len (L : List (ByteArray × Option Addr)) : (strs L).length = L.length := by simp [strs]
theorem ptrs_len (L : List (ByteArray × Option Addr)) : (ptrs L).length = L.length := by simp [ptrs]
theorem strs_snoc (L : List (ByteArray × Option Addr)) (s : ByteArray) (p : Option Addr) : strs L ++ [.string s] = strs (L ++ [(s, p)]) := by simp [strs]
theorem ptrs_snoc (L : List (ByteArray × Option Addr)) (s : ByteArray) (p : Option Addr) : ptrs L ++ [.pointer p] = ptrs (L ++ [(s, p)]) := by simp [ptrs]
theorem noNode_ptrs {w : World} {B E : Nat} {u : Value} {L : List (ByteArray × Option Addr)} (h : Own w B E u (ptrs L)) (hl : 1 ≤ L.length) : NoNode w u.ownBlock := by
  intro g hg t n ⟨c0, _⟩
  have := World.ownsRow.cells h hg 0 (.pointer L[0].2) (by unfold ptrs; rw [List.getElem?_map, List.getElem?_eq_getElem (by omega)]; rfl)
  rw [Addr.add_mid] at this
  rw [show (⟨g, 0 + 0, none⟩ : Addr) = ⟨g, 0, none⟩ from rfl] at this
  rw [this] at c0
  cases c0
/-- The list of texts: where there is but one, there is no room for another. -/
def Snug (v : Value) (n : Nat) : Prop := n = 1 → ∃ a, v = .slice a 1 1
theorem noNode_strs {w : World} {B E : Nat} {v : Value} {L : List (ByteArray × Option Addr)} (h : Own w B E v (strs L)) (hl : 1 ≤ L.length) (hs : Snug v L.length) : NoNode w v.ownBlock := by
  intro g hg t n ⟨_, c1⟩
  by_cases h1 : L.length = 1
  · obtain ⟨a, rfl⟩ := hs h1
    obtain ⟨_, h2 | ⟨g', cap, cur, e, _, hb, _, _, hc, _⟩⟩ := h
    · exact absurd h2.2 (by rw [strs_len]; omega)
    · simp only [Value.slice.injEq] at e
      obtain ⟨rfl, _, hcap⟩ := e
      simp [Value.ownBlock] at hg
      subst hg
      rw [cell_of_row w g' 1 cur E (0, 0) hb, Array.getElem?_eq_none (by omega)] at c1
      cases c1
  · have h2 : 1 < L.length := by omega
    have := World.ownsRow.cells h hg 1 (.string L[1].1) (by unfold strs; rw [List.getElem?_map, List.getElem?_eq_getElem h2]; rfl)
    rw [Addr.add_mid] at this
    rw [show (⟨g, 0 + 1, none⟩ : Addr) = ⟨g, 1, none⟩ from rfl] at this
    rw [this] at c1
    cases c1
/-- Each pointer of L leads to a tree of the text beside it. -/
def Alls (w : World) (L : List (ByteArray × Option Addr)) : Prop := ∀ z ∈ L, Has w (.pointer z.2) (lst z.1) ∧ z.1.size ≤ 4000
theorem Alls.below {w w' : World} {L : List (ByteArray × Option Addr)} (h : Alls w L) (hb : Below w.heap.size w w') : Alls w' L := fun z hz => ⟨(h z hz).1.below hb, (h z hz).2⟩
theorem Alls.kp {w w' : World} {r1 r2 : Option Nat} {L : List (ByteArray × Option Addr)} (h : Alls w L) (hk : Kp w w' r1 r2) (n1 : NoNode w r1) (n2 : NoNode w r2) : Alls w' L := fun z hz => ⟨(h z hz).1.kp hk n1 n2, (h z hz).2⟩
theorem Alls.snoc {w : World} {L : List (ByteArray × Option Addr)} (h : Alls w L) {s : ByteArray} {p : Option Addr} (hh : Has w (.pointer p) (lst s)) (hs : s.size ≤ 4000) : Alls w (L ++ [(s, p)]) := fun z hz => by
  rcases List.mem_append.1 hz with hz | hz
  · exact h z hz
  · obtain rfl := List.mem_singleton.1 hz
    exact ⟨hh, hs⟩
theorem errIs_setCell {w : World} {v : Value} {n p : Int} (h : Err.ErrIs w v n p) {Y : Nat} {q : Option Addr} (hc : w.cell? ⟨Y, 0, none⟩ = some (.pointer q)) (x : Value) : Err.ErrIs (w.setCell ⟨Y, 0, none⟩ x) v n p := by
  rcases h with h | h | ⟨b, o, e, h1, h2⟩
  · exact .inl h
  · exact .inr (.inl h)
  · refine .inr (.inr ⟨b, o, e, ?_, ?_⟩)
    · rw [World.cell?_setCell_other _ _ _ _ (fun e' => by rw [← e', hc] at h1; cases h1)]; exact h1
    · rw [World.cell?_setCell_other _ _ _ _ (fun e' => by rw [← e', hc] at h2; cases h2)]; exact h2
theorem lay12 {W w : World} {B E F : Nat} {v u : Value} {xs ys : List Value} (h : Two W w B E F v xs u ys none none) (x y : Value) (T U : Nat) : Two W ((w.alloc (.cells #[x] T)).alloc (.cells #[y] U)) B E F v xs u ys (some (w.heap.size, x)) (some (w.heap.size + 1, y)) := by
  have h' := (h.lay1 x T).lay2 y U
  rw [World.size_alloc] at h'
  exact h'
theorem lay21 {W w : World} {B E F : Nat} {v u : Value} {xs ys : List Value} (h : Two W w B E F v xs u ys none none) (x y : Value) (T U : Nat) : Two W ((w.alloc (.cells #[y] U)).alloc (.cells #[x] T)) B E F v xs u ys (some (w.heap.size + 1, x)) (some (w.heap.size, y)) := by
  have h' := (h.lay2 y U).lay1 x T
  rw [World.size_alloc] at h'
  exact h'
/-- The texts' append, at a step of a region that draws its order; what else is kept. -/
theorem step1k {P : Program} {w : World} {ops : Array Oper} {o : Oper} {a : Act} {K : Act → World → Prop} {Q : Exit → Act → World → Prop} {FF : Prop} (hgd : o.guard = none) (s y : Operand) (t : TypeId)
    (ho : o.op = .call { callee := .builtin .append, args := #[s, y], argTypes := #[t, t] })
    {W : World} {B E F : Nat} (z : Value) (bytes : Nat) (ht : P.underlying t = some (.slice E)) (hinfo : (P.info? E).map (fun i => (i.zero, i.size, i.bytes)) = some (some z, 1, bytes)) (hzs : z.cells.size = 1)
    {v u : Value} {xs ys : List Value} {g : Nat} {x : Value} {q : Option (Nat × Value)} (hT : Two W w B E F v xs u ys (some (g, x)) q) (hs : a.eval s = v) (c : Nat) (hx : a.eval y = .slice (some ⟨g, 0, none⟩) 1 c) (h1 : x.oneCell' = true)
    (hlen : (xs.length + 1) * bytes ≤ 1000000000000) (hlen2 : xs.length + 1 ≤ 1000000000000)
    {w0 : World} {r1 r2 : Option Nat} (hK : Kp w0 w r1 r2) (hr : v.ownBlock = r1)
    (h : ∀ v' w', Two W w' B E F v' (xs ++ [x]) u ys none q → Kp w0 w' r1 r2 → K (a.put o.dst v') w') :
    if Region.wanted o (yielded ops a.tmps) = true then Oper.wp P o a w K Q else FF :=
  own_append_step hgd s y t ho B E z bytes ht hinfo hzs v xs hs hT.1 ⟨g, 0, none⟩ 1 c [x] hx rfl (fun j u' hj => by
    rcases j with _ | j
    · simp at hj; subst hj; rw [Addr.add_mid]; exact hT.2.2.2.2.2.1.1
    · simp at hj) (fun u' hu => by rw [List.mem_singleton.1 hu]; exact h1) hlen hlen2 hT.2.2.2.1 (fun v' w' a b c d => h v' w' (hT.app1 a b c d) (hK.grown b (.inl hr)))
theorem step2k {P : Program} {w : World} {ops : Array Oper} {o : Oper} {a : Act} {K : Act → World → Prop} {Q : Exit → Act → World → Prop} {FF : Prop} (hgd : o.guard = none) (s y : Operand) (t : TypeId)
    (ho : o.op = .call { callee := .builtin .append, args := #[s, y], argTypes := #[t, t] })
    {W : World} {B E F : Nat} (z : Value) (bytes : Nat) (ht : P.underlying t = some (.slice F)) (hinfo : (P.info? F).map (fun i => (i.zero, i.size, i.bytes)) = some (some z, 1, bytes)) (hzs : z.cells.size = 1)
    {v u : Value} {xs ys : List Value} {g : Nat} {x : Value} {p : Option (Nat × Value)} (hT : Two W w B E F v xs u ys p (some (g, x))) (hs : a.eval s = u) (c : Nat) (hx : a.eval y = .slice (some ⟨g, 0, none⟩) 1 c) (h1 : x.oneCell' = true)
    (hlen : (ys.length + 1) * bytes ≤ 1000000000000) (hlen2 : ys.length + 1 ≤ 1000000000000)
    {w0 : World} {r1 r2 : Option Nat} (hK : Kp w0 w r1 r2) (hr : u.ownBlock = r2)
    (h : ∀ v' w', Two W w' B E F v xs v' (ys ++ [x]) p none → Kp w0 w' r1 r2 → K (a.put o.dst v') w') :
    if Region.wanted o (yielded ops a.tmps) = true then Oper.wp P o a w K Q else FF :=
  own_append_step hgd s y t ho B F z bytes ht hinfo hzs u ys hs hT.2.1 ⟨g, 0, none⟩ 1 c [x] hx rfl (fun j u' hj => by
    rcases j with _ | j
    · simp at hj; subst hj; rw [Addr.add_mid]; exact hT.2.2.2.2.2.2.1
    · simp at hj) (fun u' hu => by rw [List.mem_singleton.1 hu]; exact h1) hlen hlen2 hT.2.2.2.1 (fun v' w' a b c d => h v' w' (hT.app2 a b c d) (hK.grown b (.inr hr)))
end Go.Proofs.YtfckhkpheahgaaaDoor.Pc
