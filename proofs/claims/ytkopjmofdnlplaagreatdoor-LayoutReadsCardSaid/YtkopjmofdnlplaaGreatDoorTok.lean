/-
  PROVED HERE: lists of api.Token in memory that a call owns, append of one. Conditions: as each theorem states.
-/
import Derived.Test.YtkopjmofdnlplaaGreatDoorRows
import Derived.Test.YtkopjmofdnlplaaGreatDoorOwn
namespace Go.Proofs.YtkopjmofdnlplaaGreatDoor
open Go.RowKit
structure Tk where
  text : ByteArray
  place : Nat
def Tk.cells (e : Tk) : List Value := [.string e.text, .int .i64 e.place]
def tkCells (l : List Tk) : List Value := l.flatMap Tk.cells
theorem tkCells_len (l : List Tk) : (tkCells l).length = l.length * 2 := by
  induction l with
  | nil => rfl
  | cons e r ih => rw [tkCells, List.flatMap_cons, List.length_append, ← tkCells, ih, List.length_cons]; simp [Tk.cells]; omega
theorem tkCells_snoc (l : List Tk) (e : Tk) : tkCells l ++ e.cells = tkCells (l ++ [e]) := by simp [tkCells]
theorem tkCells_get (l : List Tk) (j i : Nat) (hj : j < l.length) (hi : i < 2) : (tkCells l)[j * 2 + i]? = l[j].cells[i]? := by
  induction l generalizing j with
  | nil => simp at hj
  | cons e r ih =>
    rw [tkCells, List.flatMap_cons, ← tkCells]
    cases j with
    | zero =>
      rw [Nat.zero_mul, Nat.zero_add, List.getElem?_append_left (by simp [Tk.cells]; omega)]
      rfl
    | succ j =>
      rw [List.getElem?_append_right (by simp [Tk.cells]; omega), show (j + 1) * 2 + i - e.cells.length = j * 2 + i by simp [Tk.cells]; omega]
      rw [ih j (by simpa using hj)]
      rfl
/-- The slice v shows the tokens l. -/
def Tks (w : World) (v : Value) (l : List Tk) : Prop :=
  ∃ a cap, v = .slice a l.length cap ∧ l.length ≤ cap ∧ ∀ j (h : j < l.length), ∃ ad, a = some ad ∧ w.cell? (ad.add (j * 2)) = some (.string l[j].text) ∧ w.cell? (ad.add (j * 2 + 1)) = some (.int .i64 l[j].place)
theorem Tks.below {w w' : World} {v : Value} {l : List Tk} (h : Tks w v l) (hb : Below w.heap.size w w') : Tks w' v l := by
  obtain ⟨a, cap, e, hl, hc⟩ := h
  refine ⟨a, cap, e, hl, fun j hj => ?_⟩
  obtain ⟨ad, h1, h2, h3⟩ := hc j hj
  exact ⟨ad, h1, (hb.cell (p := ad.add (j * 2)) (World.block_lt_of_cell? w _ h2)).trans h2, (hb.cell (p := ad.add (j * 2 + 1)) (World.block_lt_of_cell? w _ h3)).trans h3⟩
theorem add_next2 (ad : Addr) (m i : Nat) : ad.add (m + (i + 1)) = ⟨(ad.add m).block, (ad.add m).off + (i + 1), none⟩ := by
  unfold Addr.add
  by_cases h : m = 0
  · subst h; simp
  · simp [h, Nat.add_assoc]
/-- The two cells of a token, as a walk reckons their addresses. -/
theorem Tks.at_ {w : World} {a : Option Addr} {n cap : Nat} {l : List Tk} (h : Tks w (.slice a n cap) l) (j : Nat) (hj : j < l.length) : ∃ ad, a = some ad ∧ w.cell? (ad.add (j * 2)) = some (.string l[j].text) ∧ w.cell? ⟨(ad.add (j * 2)).block, (ad.add (j * 2)).off + 1, none⟩ = some (.int .i64 l[j].place) := by
  obtain ⟨a', cap', e, _, hc⟩ := h
  simp only [Value.slice.injEq] at e
  obtain ⟨rfl, _, _⟩ := e
  obtain ⟨ad, h1, h2, h3⟩ := hc j hj
  exact ⟨ad, h1, h2, by rw [← add_next2 ad (j * 2) 0]; exact h3⟩
/-- Tokens in a list of the call's own. -/
def OwnT (w : World) (B : Nat) (v : Value) (l : List Tk) : Prop := w.ownsRow B 170 2 v l.length (tkCells l)
theorem ownT_nil (w : World) (B : Nat) : OwnT w B (.slice none 0 0) [] := World.ownsRow_nil w B _ 2
theorem OwnT.alloc {w : World} {B : Nat} {v : Value} {l : List Tk} (h : OwnT w B v l) (o : Obj) : OwnT (w.alloc o) B v l := World.ownsRow.alloc h o
theorem OwnT.drew {w : World} {B : Nat} {v : Value} {l : List Tk} (h : OwnT w B v l) : OwnT w.drew B v l := h
theorem OwnT.drewN {w : World} {B : Nat} {v : Value} {l : List Tk} (h : OwnT w B v l) (n : Nat) : OwnT (w.drewN n) B v l := h
theorem OwnT.below {w w' : World} {B : Nat} {v : Value} {l : List Tk} (h : OwnT w B v l) (hb : Below w.heap.size w w') : OwnT w' B v l :=
  World.ownsRow.kept (row := none) h ⟨hb.os, hb.tape, hb.output, hb.size, fun k hk _ => hb.block k hk⟩ (by cases v.ownBlock <;> simp)
theorem OwnT.len {w : World} {B : Nat} {v : Value} {l : List Tk} (h : OwnT w B v l) : ∃ a cap, v = .slice a l.length cap := by
  rcases h.2 with ⟨rfl, h0⟩ | ⟨g, cap, cur, rfl, _⟩
  · exact ⟨none, 0, by rw [h0]⟩
  · exact ⟨_, _, rfl⟩
theorem OwnT.tks {w : World} {B : Nat} {v : Value} {l : List Tk} (h : OwnT w B v l) : Tks w v l := by
  have h' := h
  rcases h.2 with ⟨rfl, h0⟩ | ⟨g, cap, cur, rfl, _, hg, hcp, _⟩
  · obtain rfl : l = [] := List.eq_nil_of_length_eq_zero h0
    exact ⟨none, 0, rfl, Nat.le_refl _, fun j hj => absurd hj (Nat.not_lt_zero j)⟩
  · refine ⟨_, cap, rfl, hcp, fun j hj => ⟨_, rfl, ?_, ?_⟩⟩
    · exact World.ownsRow.cells h' (g := g) rfl (j * 2) _ (by have := tkCells_get l j 0 hj (by decide); simpa [Tk.cells] using this)
    · exact World.ownsRow.cells h' (g := g) rfl (j * 2 + 1) _ (by rw [tkCells_get l j 1 hj (by decide)]; rfl)
theorem infoTok : (Tryz.prog.info? 170).map (fun i => (i.zero, i.size, i.bytes)) = some (some (.agg #[.string ⟨#[]⟩, .int .i64 0]), 2, 24) := by kernel_rfl
section
variable {w : World}
/-- append of one token, which was laid into a block of its own. -/
theorem ownT_append1 {ops : Array Oper} {rest : List Oper} {o : Oper} {a : Act} {Q : Exit → Act → World → Prop} (hgd : o.guard = none) (s x : Operand)
    (ho : o.op = .call { callee := .builtin .append, args := #[s, x], argTypes := #[114, 114] })
    (B : Nat) (v : Value) (l : List Tk) (hs : a.eval s = v) (hown : OwnT w B v l)
    (g c : Nat) (e : Tk) (hx : a.eval x = .slice (some ⟨g, 0, none⟩) 1 c) (hnew : w.heap[g]? = some (.cells #[.string e.text, .int .i64 e.place] 170 (0, 0)))
    (hlen : l.length + 1 ≤ 100000000) (hbase : B ≤ w.heap.size)
    (h : ∀ v' w', OwnT w' B v' (l ++ [e]) → w.grownBy w' v.ownBlock → Below B w w' → (v'.ownBlock = v.ownBlock ∨ v'.ownBlock = some w.heap.size) → wpList Tryz.prog ops Q rest (a.put o.dst v') w') : wpList Tryz.prog ops Q (o :: rest) a w := by
  obtain ⟨i, hi, hz0, hz1, hz2⟩ := info_parts infoTok
  refine wpList_append_own_at w hgd s x 114 ho B 170 i _ 2 24 Tryz.underlying114 hi hz0 hz1 hz2 rfl (by decide) v l.length (tkCells l) hs hown ⟨g, 0, none⟩ 1 c e.cells hx rfl ?_ (by simp [Tk.cells, Value.oneCell']) (by unfold maxLen; omega) (by omega) hbase ?_
  · intro j u hu
    rw [Addr.add_mid, Nat.zero_add]
    have e1 : w.cell? ⟨g, j, none⟩ = (#[Value.string e.text, .int .i64 e.place] : Array Value)[j]? := by simp [World.cell?, hnew]
    rw [e1]
    simpa [Tk.cells] using hu
  · intro v' w' h2 h3 _ h5
    refine h v' w' ?_ h3 ((Below.refl B w).grown h3 hbase (fun k hk => (World.ownsRow.lt hown k hk).1)) h5
    unfold OwnT
    rw [List.length_append, ← tkCells_snoc]
    exact h2
end
end Go.Proofs.YtkopjmofdnlplaaGreatDoor
