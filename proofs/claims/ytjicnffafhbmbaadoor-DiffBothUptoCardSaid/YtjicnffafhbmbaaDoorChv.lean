/-
  PROVED HERE: lists of changes in memory, of whatever type of three such fields: those that a call owns, append of one, the last one's end and text stored. Conditions: as each theorem states.
-/
import Derived.Test.YtjicnffafhbmbaaDoorBoA
import Derived.Test.YtjicnffafhbmbaaDoorOwn
import Derived.Laws.OwnMore
import Derived.Deep.Slices
namespace Go.Proofs.YtjicnffafhbmbaaDoor.Bo
open Go.RowKit
def Ch.cells (e : Ch) : List Value := [.int .i64 (e.fr : Nat), .int .i64 (e.to : Nat), .string e.text]
def chCells (l : List Ch) : List Value := l.flatMap Ch.cells
theorem chCells_len (l : List Ch) : (chCells l).length = l.length * 3 := by
  induction l with
  | nil => rfl
  | cons e r ih => rw [chCells, List.flatMap_cons, List.length_append, ← chCells, ih, List.length_cons]; simp [Ch.cells]; omega
theorem chCells_snoc (l : List Ch) (e : Ch) : chCells l ++ e.cells = chCells (l ++ [e]) := by simp [chCells]
theorem chCells_get (l : List Ch) (j i : Nat) (hj : j < l.length) (hi : i < 3) : (chCells l)[j * 3 + i]? = l[j].cells[i]? := by
  induction l generalizing j with
  | nil => simp at hj
  | cons e r ih =>
    rw [chCells, List.flatMap_cons, ← chCells]
    cases j with
    | zero =>
      rw [Nat.zero_mul, Nat.zero_add, List.getElem?_append_left (by simp [Ch.cells]; omega)]
      rfl
    | succ j =>
      rw [List.getElem?_append_right (by simp [Ch.cells]; omega), show (j + 1) * 3 + i - e.cells.length = j * 3 + i by simp [Ch.cells]; omega]
      rw [ih j (by simpa using hj)]
      rfl
/-- The slice v shows the changes l. -/
def Chv (w : World) (v : Value) (l : List Ch) : Prop :=
  ∃ a cap, v = .slice a l.length cap ∧ l.length ≤ cap ∧ ∀ j (h : j < l.length), ∃ ad, a = some ad ∧ w.cell? (ad.add (j * 3)) = some (.int .i64 (l[j].fr : Nat)) ∧ w.cell? (ad.add (j * 3 + 1)) = some (.int .i64 (l[j].to : Nat)) ∧ w.cell? (ad.add (j * 3 + 2)) = some (.string l[j].text)
theorem Chv.below {w w' : World} {v : Value} {l : List Ch} (h : Chv w v l) (hb : Below w.heap.size w w') : Chv w' v l := by
  obtain ⟨a, cap, e, hl, hc⟩ := h
  refine ⟨a, cap, e, hl, fun j hj => ?_⟩
  obtain ⟨ad, h1, h2, h3, h4⟩ := hc j hj
  exact ⟨ad, h1, (hb.cell (p := ad.add (j * 3)) (World.block_lt_of_cell? w _ h2)).trans h2, (hb.cell (p := ad.add (j * 3 + 1)) (World.block_lt_of_cell? w _ h3)).trans h3, (hb.cell (p := ad.add (j * 3 + 2)) (World.block_lt_of_cell? w _ h4)).trans h4⟩
theorem add_next3 (ad : Addr) (m i : Nat) : ad.add (m + (i + 1)) = ⟨(ad.add m).block, (ad.add m).off + (i + 1), none⟩ := by
  unfold Addr.add
  by_cases h : m = 0
  · subst h; simp
  · simp [h, Nat.add_assoc]
/-- The three cells of a change, as a walk reckons their addresses. -/
theorem Chv.at_ {w : World} {a : Option Addr} {n cap : Nat} {l : List Ch} (h : Chv w (.slice a n cap) l) (j : Nat) (hj : j < l.length) : ∃ ad, a = some ad ∧ w.cell? (ad.add (j * 3)) = some (.int .i64 (l[j].fr : Nat)) ∧ w.cell? ⟨(ad.add (j * 3)).block, (ad.add (j * 3)).off + 1, none⟩ = some (.int .i64 (l[j].to : Nat)) ∧ w.cell? ⟨(ad.add (j * 3)).block, (ad.add (j * 3)).off + 2, none⟩ = some (.string l[j].text) := by
  obtain ⟨a', cap', e, _, hc⟩ := h
  simp only [Value.slice.injEq] at e
  obtain ⟨rfl, _, _⟩ := e
  obtain ⟨ad, h1, h2, h3, h4⟩ := hc j hj
  exact ⟨ad, h1, h2, by rw [← add_next3 ad (j * 3) 0]; exact h3, by rw [← add_next3 ad (j * 3) 1]; exact h4⟩
/-- Changes in a list of the call's own, of type T. -/
def OwnC (T : TypeId) (w : World) (B : Nat) (v : Value) (l : List Ch) : Prop := w.ownsRow B T 3 v l.length (chCells l)
section
variable {T : TypeId}
theorem ownC_nil (w : World) (B : Nat) : OwnC T w B (.slice none 0 0) [] := World.ownsRow_nil w B _ 3
theorem OwnC.alloc {w : World} {B : Nat} {v : Value} {l : List Ch} (h : OwnC T w B v l) (o : Obj) : OwnC T (w.alloc o) B v l := World.ownsRow.alloc h o
theorem OwnC.drew {w : World} {B : Nat} {v : Value} {l : List Ch} (h : OwnC T w B v l) : OwnC T w.drew B v l := h
theorem OwnC.below {w w' : World} {B : Nat} {v : Value} {l : List Ch} (h : OwnC T w B v l) (hb : Below w.heap.size w w') : OwnC T w' B v l :=
  World.ownsRow.kept (row := none) h ⟨hb.os, hb.tape, hb.output, hb.size, fun k hk _ => hb.block k hk⟩ (by cases v.ownBlock <;> simp)
theorem OwnC.len {w : World} {B : Nat} {v : Value} {l : List Ch} (h : OwnC T w B v l) : ∃ a cap, v = .slice a l.length cap := by
  rcases h.2 with ⟨rfl, h0⟩ | ⟨g, cap, cur, rfl, _⟩
  · exact ⟨none, 0, by rw [h0]⟩
  · exact ⟨_, _, rfl⟩
theorem OwnC.show_ {w : World} {B : Nat} {v : Value} {l : List Ch} (h : OwnC T w B v l) : Chv w v l := by
  have h' := h
  rcases h.2 with ⟨rfl, h0⟩ | ⟨g, cap, cur, rfl, _, hg, hc, _⟩
  · obtain rfl : l = [] := List.eq_nil_of_length_eq_zero h0
    exact ⟨none, 0, rfl, Nat.le_refl _, fun j hj => absurd hj (Nat.not_lt_zero j)⟩
  · refine ⟨_, cap, rfl, hc, fun j hj => ⟨_, rfl, ?_, ?_, ?_⟩⟩
    · exact World.ownsRow.cells h' (g := g) rfl (j * 3) _ (by have := chCells_get l j 0 hj (by decide); simpa [Ch.cells] using this)
    · exact World.ownsRow.cells h' (g := g) rfl (j * 3 + 1) _ (by rw [chCells_get l j 1 hj (by decide)]; rfl)
    · exact World.ownsRow.cells h' (g := g) rfl (j * 3 + 2) _ (by rw [chCells_get l j 2 hj (by decide)]; rfl)
end
/-- What a walk asks of the type of a change, and of its slices'. -/
structure ChT (T S : TypeId) : Prop where
  info : (Tryd.prog.info? T).map (fun i => (i.zero, i.size, i.bytes)) = some (some (.agg #[.int .i64 0, .int .i64 0, .string ⟨#[]⟩]), 3, 32)
  slice : Tryd.prog.underlying S = some (.slice T)
section
variable {T S : TypeId} {w : World}
/-- append of one change, which was laid into a block of its own. -/
theorem ownC_append1 (hT : ChT T S) {ops : Array Oper} {rest : List Oper} {o : Oper} {a : Act} {Q : Exit → Act → World → Prop} (hgd : o.guard = none) (s x : Operand)
    (ho : o.op = .call { callee := .builtin .append, args := #[s, x], argTypes := #[S, S] })
    (B : Nat) (v : Value) (l : List Ch) (hs : a.eval s = v) (hown : OwnC T w B v l)
    (g c : Nat) (e : Ch) (hx : a.eval x = .slice (some ⟨g, 0, none⟩) 1 c) (hnew : w.heap[g]? = some (.cells #[.int .i64 (e.fr : Nat), .int .i64 (e.to : Nat), .string e.text] T (0, 0)))
    (hlen : l.length + 1 ≤ 1000000) (hbase : B ≤ w.heap.size)
    (h : ∀ v' w', OwnC T w' B v' (l ++ [e]) → w.grownBy w' v.ownBlock → Below B w w' → (v'.ownBlock = v.ownBlock ∨ v'.ownBlock = some w.heap.size) → wpList Tryd.prog ops Q rest (a.put o.dst v') w') : wpList Tryd.prog ops Q (o :: rest) a w := by
  obtain ⟨i, hi, hz0, hz1, hz2⟩ := info_parts hT.info
  refine wpList_append_own_at w hgd s x S ho B T i _ 3 32 hT.slice hi hz0 hz1 hz2 rfl (by decide) v l.length (chCells l) hs hown ⟨g, 0, none⟩ 1 c e.cells hx rfl ?_ (by simp [Ch.cells, Value.oneCell']) (by unfold maxLen; omega) (by omega) hbase ?_
  · intro j u hu
    rw [Addr.add_mid, Nat.zero_add]
    have e1 : w.cell? ⟨g, j, none⟩ = (#[Value.int .i64 (e.fr : Nat), .int .i64 (e.to : Nat), .string e.text] : Array Value)[j]? := by simp [World.cell?, hnew]
    rw [e1]
    simpa [Ch.cells] using hu
  · intro v' w' h2 h3 _ h5
    refine h v' w' ?_ h3 ((Below.refl B w).grown h3 hbase (fun k hk => (World.ownsRow.lt hown k hk).1)) h5
    unfold OwnC
    rw [List.length_append, ← chCells_snoc]
    exact h2
end
section
variable {T : TypeId} {w : World} {B g cap D : Nat} {d : List Ch} {q : Ch}
theorem add_from00 (g k : Nat) : (⟨g, 0, none⟩ : Addr).add k = ⟨g, k, none⟩ := by
  unfold Addr.add
  by_cases h : k = 0 <;> simp [h]
theorem chCells_last (d : List Ch) (q : Ch) : chCells (d ++ [q]) = chCells d ++ [.int .i64 (q.fr : Nat), .int .i64 (q.to : Nat), .string q.text] := by
  simp [chCells, Ch.cells]
theorem lastC_cells (hD : d.length = D) (h : OwnC T w B (.slice (some ⟨g, 0, none⟩) (D + 1) cap) (d ++ [q])) :
    (w.cell? ⟨g, D * 3, none⟩ = some (.int .i64 (q.fr : Nat)) ∧ w.cell? ⟨g, D * 3 + 1, none⟩ = some (.int .i64 (q.to : Nat)) ∧ w.cell? ⟨g, D * 3 + 2, none⟩ = some (.string q.text)) ∧ (∀ j, w.frozen? ⟨g, j, none⟩ = false) := by
  subst hD
  have hl : d.length < (d ++ [q]).length := by simp
  have hg : (d ++ [q])[d.length] = q := by simp
  have h' : w.ownsRow B T 3 (.slice (some ⟨g, 0, none⟩) (d.length + 1) cap) (d.length + 1) (chCells (d ++ [q])) := by
    have := h; unfold OwnC at this; simpa using this
  refine ⟨⟨?_, ?_, ?_⟩, fun j => World.ownsRow.frozenAt h' j⟩
  · rw [← add_from00]
    exact World.ownsRow.cells h' (g := g) rfl (d.length * 3) _ (by have := chCells_get (d ++ [q]) d.length 0 hl (by decide); rw [hg] at this; simpa [Ch.cells] using this)
  · rw [← add_from00]
    exact World.ownsRow.cells h' (g := g) rfl (d.length * 3 + 1) _ (by rw [chCells_get _ d.length 1 hl (by decide), hg]; rfl)
  · rw [← add_from00]
    exact World.ownsRow.cells h' (g := g) rfl (d.length * 3 + 2) _ (by rw [chCells_get _ d.length 2 hl (by decide), hg]; rfl)
theorem lastC_to (hD : d.length = D) (h : OwnC T w B (.slice (some ⟨g, 0, none⟩) (D + 1) cap) (d ++ [q])) (m : Nat) : OwnC T (w.setCell ⟨g, D * 3 + 1, none⟩ (.int .i64 (m : Nat))) B (.slice (some ⟨g, 0, none⟩) (D + 1) cap) (d ++ [⟨q.fr, m, q.text⟩]) := by
  subst hD
  have h' : w.ownsRow B T 3 (.slice (some ⟨g, 0, none⟩) (d.length + 1) cap) (d.length + 1) (chCells (d ++ [q])) := by
    have := h; unfold OwnC at this; simpa using this
  have hs := (World.ownsRow.stored h' (d.length * 3 + 1) (.int .i64 (m : Nat))).1
  rw [chCells_last, List.set_append_right _ _ (by rw [chCells_len]; omega), chCells_len, show d.length * 3 + 1 - d.length * 3 = 1 by omega] at hs
  unfold OwnC
  rw [chCells_last, show (d ++ [Ch.mk q.fr m q.text]).length = d.length + 1 by simp]
  exact hs
theorem lastC_text (hD : d.length = D) (h : OwnC T w B (.slice (some ⟨g, 0, none⟩) (D + 1) cap) (d ++ [q])) (t : ByteArray) : OwnC T (w.setCell ⟨g, D * 3 + 2, none⟩ (.string t)) B (.slice (some ⟨g, 0, none⟩) (D + 1) cap) (d ++ [⟨q.fr, q.to, t⟩]) := by
  subst hD
  have h' : w.ownsRow B T 3 (.slice (some ⟨g, 0, none⟩) (d.length + 1) cap) (d.length + 1) (chCells (d ++ [q])) := by
    have := h; unfold OwnC at this; simpa using this
  have hs := (World.ownsRow.stored h' (d.length * 3 + 2) (.string t)).1
  rw [chCells_last, List.set_append_right _ _ (by rw [chCells_len]; omega), chCells_len, show d.length * 3 + 2 - d.length * 3 = 2 by omega] at hs
  unfold OwnC
  rw [chCells_last, show (d ++ [Ch.mk q.fr q.to t]).length = d.length + 1 by simp]
  exact hs
end
theorem chT_change : ChT 49 42 := ⟨by kernel_rfl, Tryd.underlying42⟩
theorem chT_swap : ChT 37 34 := ⟨by kernel_rfl, Tryd.underlying34⟩
end Go.Proofs.YtjicnffafhbmbaaDoor.Bo
