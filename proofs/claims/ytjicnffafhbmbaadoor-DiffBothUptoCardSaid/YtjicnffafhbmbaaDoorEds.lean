/-
  PROVED HERE: lists of api.Edit in memory: those that came in, those that a call owns, append of one; the contract of the laws' sameEdits. Conditions: as each theorem states.
-/
import Derived.Test.YtjicnffafhbmbaaDoorRows
import Derived.Test.YtjicnffafhbmbaaDoorOwn
import Derived.Deep.Slices
import Derived.Deep.Fields
namespace Go.Proofs.YtjicnffafhbmbaaDoor
open Go.RowKit
structure Ed where
  what : Int
  n : Int
  text : ByteArray
def Ed.cells (e : Ed) : List Value := [.int .i64 e.what, .int .i64 e.n, .string e.text]
def edCells (l : List Ed) : List Value := l.flatMap Ed.cells
theorem edCells_len (l : List Ed) : (edCells l).length = l.length * 3 := by
  induction l with
  | nil => rfl
  | cons e r ih => rw [edCells, List.flatMap_cons, List.length_append, ← edCells, ih, List.length_cons]; simp [Ed.cells]; omega
theorem edCells_snoc (l : List Ed) (e : Ed) : edCells l ++ e.cells = edCells (l ++ [e]) := by simp [edCells]
theorem edCells_get (l : List Ed) (j i : Nat) (hj : j < l.length) (hi : i < 3) : (edCells l)[j * 3 + i]? = l[j].cells[i]? := by
  induction l generalizing j with
  | nil => simp at hj
  | cons e r ih =>
    rw [edCells, List.flatMap_cons, ← edCells]
    cases j with
    | zero =>
      rw [Nat.zero_mul, Nat.zero_add, List.getElem?_append_left (by simp [Ed.cells]; omega)]
      rfl
    | succ j =>
      rw [List.getElem?_append_right (by simp [Ed.cells]; omega), show (j + 1) * 3 + i - e.cells.length = j * 3 + i by simp [Ed.cells]; omega]
      rw [ih j (by simpa using hj)]
      rfl
/-- The slice v shows the edits l. -/
def Eds (w : World) (v : Value) (l : List Ed) : Prop :=
  ∃ a cap, v = .slice a l.length cap ∧ ∀ j (h : j < l.length), ∃ ad, a = some ad ∧ w.cell? (ad.add (j * 3)) = some (.int .i64 l[j].what) ∧ w.cell? (ad.add (j * 3 + 1)) = some (.int .i64 l[j].n) ∧ w.cell? (ad.add (j * 3 + 2)) = some (.string l[j].text)
theorem Eds.below {w w' : World} {v : Value} {l : List Ed} (h : Eds w v l) (hb : Below w.heap.size w w') : Eds w' v l := by
  obtain ⟨a, cap, e, hc⟩ := h
  refine ⟨a, cap, e, fun j hj => ?_⟩
  obtain ⟨ad, h1, h2, h3, h4⟩ := hc j hj
  exact ⟨ad, h1, (hb.cell (p := ad.add (j * 3)) (World.block_lt_of_cell? w _ h2)).trans h2, (hb.cell (p := ad.add (j * 3 + 1)) (World.block_lt_of_cell? w _ h3)).trans h3, (hb.cell (p := ad.add (j * 3 + 2)) (World.block_lt_of_cell? w _ h4)).trans h4⟩
theorem add_next (ad : Addr) (m i : Nat) : ad.add (m + (i + 1)) = ⟨(ad.add m).block, (ad.add m).off + (i + 1), none⟩ := by
  unfold Addr.add
  by_cases h : m = 0
  · subst h; simp
  · simp [h, Nat.add_assoc]
/-- The three cells of an edit, as a walk reckons their addresses. -/
theorem Eds.at_ {w : World} {a : Option Addr} {n cap : Nat} {l : List Ed} (h : Eds w (.slice a n cap) l) (j : Nat) (hj : j < l.length) : ∃ ad, a = some ad ∧ w.cell? (ad.add (j * 3)) = some (.int .i64 l[j].what) ∧ w.cell? ⟨(ad.add (j * 3)).block, (ad.add (j * 3)).off + 1, none⟩ = some (.int .i64 l[j].n) ∧ w.cell? ⟨(ad.add (j * 3)).block, (ad.add (j * 3)).off + 2, none⟩ = some (.string l[j].text) := by
  obtain ⟨a', cap', e, hc⟩ := h
  simp only [Value.slice.injEq] at e
  obtain ⟨rfl, _, _⟩ := e
  obtain ⟨ad, h1, h2, h3, h4⟩ := hc j hj
  exact ⟨ad, h1, h2, by rw [← add_next ad (j * 3) 0]; exact h3, by rw [← add_next ad (j * 3) 1]; exact h4⟩
/-- Edits in a list of the call's own. -/
def OwnE (w : World) (B : Nat) (v : Value) (l : List Ed) : Prop := w.ownsRow B 58 3 v l.length (edCells l)
theorem ownE_nil (w : World) (B : Nat) : OwnE w B (.slice none 0 0) [] := World.ownsRow_nil w B _ 3
theorem OwnE.alloc {w : World} {B : Nat} {v : Value} {l : List Ed} (h : OwnE w B v l) (o : Obj) : OwnE (w.alloc o) B v l := World.ownsRow.alloc h o
theorem OwnE.drew {w : World} {B : Nat} {v : Value} {l : List Ed} (h : OwnE w B v l) : OwnE w.drew B v l := h
theorem OwnE.below {w w' : World} {B : Nat} {v : Value} {l : List Ed} (h : OwnE w B v l) (hb : Below w.heap.size w w') : OwnE w' B v l :=
  World.ownsRow.kept (row := none) h ⟨hb.os, hb.tape, hb.output, hb.size, fun k hk _ => hb.block k hk⟩ (by cases v.ownBlock <;> simp)
theorem OwnE.len {w : World} {B : Nat} {v : Value} {l : List Ed} (h : OwnE w B v l) : ∃ a cap, v = .slice a l.length cap := by
  rcases h.2 with ⟨rfl, h0⟩ | ⟨g, cap, cur, rfl, _⟩
  · exact ⟨none, 0, by rw [h0]⟩
  · exact ⟨_, _, rfl⟩
theorem OwnE.eds {w : World} {B : Nat} {v : Value} {l : List Ed} (h : OwnE w B v l) : Eds w v l := by
  have h' := h
  rcases h.2 with ⟨rfl, h0⟩ | ⟨g, cap, cur, rfl, _, hg, _⟩
  · obtain rfl : l = [] := List.eq_nil_of_length_eq_zero h0
    exact ⟨none, 0, rfl, fun j hj => absurd hj (Nat.not_lt_zero j)⟩
  · refine ⟨_, cap, rfl, fun j hj => ⟨_, rfl, ?_, ?_, ?_⟩⟩
    · exact World.ownsRow.cells h' (g := g) rfl (j * 3) _ (by have := edCells_get l j 0 hj (by decide); simpa [Ed.cells] using this)
    · exact World.ownsRow.cells h' (g := g) rfl (j * 3 + 1) _ (by rw [edCells_get l j 1 hj (by decide)]; rfl)
    · exact World.ownsRow.cells h' (g := g) rfl (j * 3 + 2) _ (by rw [edCells_get l j 2 hj (by decide)]; rfl)
theorem infoEd : (Tryd.prog.info? 58).map (fun i => (i.zero, i.size, i.bytes)) = some (some (.agg #[.int .i64 0, .int .i64 0, .string ⟨#[]⟩]), 3, 32) := by kernel_rfl
section
variable {w : World}
/-- append of one edit, which was laid into a block of its own (the last one). -/
theorem ownE_append1 {ops : Array Oper} {rest : List Oper} {o : Oper} {a : Act} {Q : Exit → Act → World → Prop} (hgd : o.guard = none) (s x : Operand)
    (ho : o.op = .call { callee := .builtin .append, args := #[s, x], argTypes := #[31, 31] })
    (B : Nat) (v : Value) (l : List Ed) (hs : a.eval s = v) (hown : OwnE w B v l)
    (g c : Nat) (e : Ed) (hx : a.eval x = .slice (some ⟨g, 0, none⟩) 1 c) (hnew : w.heap[g]? = some (.cells #[.int .i64 e.what, .int .i64 e.n, .string e.text] 58 (0, 0)))
    (hlen : l.length + 1 ≤ 1000000) (hbase : B ≤ w.heap.size)
    (h : ∀ v' w', OwnE w' B v' (l ++ [e]) → w.grownBy w' v.ownBlock → Below B w w' → (v'.ownBlock = v.ownBlock ∨ v'.ownBlock = some w.heap.size) → wpList Tryd.prog ops Q rest (a.put o.dst v') w') : wpList Tryd.prog ops Q (o :: rest) a w := by
  obtain ⟨i, hi, hz0, hz1, hz2⟩ := info_parts infoEd
  refine wpList_append_own_at w hgd s x 31 ho B 58 i _ 3 32 Tryd.underlying31 hi hz0 hz1 hz2 rfl (by decide) v l.length (edCells l) hs hown ⟨g, 0, none⟩ 1 c e.cells hx rfl ?_ (by simp [Ed.cells, Value.oneCell']) (by unfold maxLen; omega) (by omega) hbase ?_
  · intro j u hu
    rw [Addr.add_mid, Nat.zero_add]
    have e1 : w.cell? ⟨g, j, none⟩ = (#[Value.int .i64 e.what, .int .i64 e.n, .string e.text] : Array Value)[j]? := by simp [World.cell?, hnew]
    rw [e1]
    simpa [Ed.cells] using hu
  · intro v' w' h2 h3 _ h5
    refine h v' w' ?_ h3 ((Below.refl B w).grown h3 hbase (fun k hk => (World.ownsRow.lt hown k hk).1)) h5
    unfold OwnE
    rw [List.length_append, ← edCells_snoc]
    exact h2
end
section
open Go.WideShapes Go.ChangeShapes Go.Deep
variable {H : Type} {enc : TypeId × Value → H}
/-- An argument of type []api.Edit. -/
theorem eds_of_trod {W : World} {sp : Nat → Bool} {held : Bool} {a : Option Addr} {len cap : Nat} {d : DataW H} {p : List MemPlace}
    (h : DataW.Trod enc Tryd.prog W 0 sp held 31 (.slice a len cap) d p) : ∃ l : List Ed, l.length = len ∧ Eds W (.slice a len cap) l ∧ ∀ x ∈ l, (-9223372036854775808 ≤ x.what ∧ x.what ≤ 9223372036854775807) ∧ (-9223372036854775808 ≤ x.n ∧ x.n ≤ 9223372036854775807) := by
  obtain ⟨f, hf⟩ := h
  have hC : Tryd.prog.cellsOf 58 = 3 := by kernel_rfl
  rcases open_slice Tryd.underlying31 hf with ⟨hcs, _⟩ | ⟨ad, len', cap', m, n, D, Pl, hcs, _, hl, _, hm, _, hi⟩
  · simp [Value.cells] at hcs
    obtain ⟨rfl, rfl, rfl⟩ := hcs
    exact ⟨[], rfl, ⟨none, 0, rfl, fun j hj => absurd hj (Nat.not_lt_zero j)⟩, fun x hx => by cases hx⟩
  · simp [Value.cells] at hcs
    obtain ⟨rfl, rfl, rfl⟩ := hcs
    have hml : len ≤ m := by rw [hm]; split <;> omega
    have one : ∀ i, i < len → ∃ e : Ed, W.cell? (ad.add (i * 3)) = some (.int .i64 e.what) ∧ W.cell? (ad.add (i * 3 + 1)) = some (.int .i64 e.n) ∧ W.cell? (ad.add (i * 3 + 2)) = some (.string e.text) ∧ (-9223372036854775808 ≤ e.what ∧ e.what ≤ 9223372036854775807) ∧ (-9223372036854775808 ≤ e.n ∧ e.n ≤ 9223372036854775807) := by
      intro i hil
      obtain ⟨cs', hc, ht⟩ := hi i (by omega)
      rw [hC] at hc
      obtain ⟨_, hcl, hat⟩ := World.cells?_some hc
      obtain ⟨ys, n', _, _, _, hyl, hg⟩ := DataW.trod_struct Tryd.underlying58 ht
      rcases cs' with _ | ⟨c0, _ | ⟨c1, _ | ⟨c2, _ | ⟨_, _⟩⟩⟩⟩ <;> simp only [List.length_nil, List.length_cons] at hcl <;> try omega
      rcases ys with _ | ⟨y0, _ | ⟨y1, _ | ⟨y2, _ | ⟨_, _⟩⟩⟩⟩ <;> simp only [List.length_nil, List.length_cons] at hyl <;> try (simp at hyl)
      have k0 : Tryd.prog.cellsOf 3 = 1 := by kernel_rfl
      have k2 : Tryd.prog.cellsOf 9 = 1 := by kernel_rfl
      have g0 : DataW.trod enc Tryd.prog W 0 sp held n' 3 (([c0, c1, c2].drop 0).take (Tryd.prog.cellsOf 3)) = some y0 := hg 0 _ rfl
      have g1 : DataW.trod enc Tryd.prog W 0 sp held n' 3 (([c0, c1, c2].drop 1).take (Tryd.prog.cellsOf 3)) = some y1 := hg 1 _ rfl
      have g2 : DataW.trod enc Tryd.prog W 0 sp held n' 9 (([c0, c1, c2].drop 2).take (Tryd.prog.cellsOf 9)) = some y2 := hg 2 _ rfl
      rw [k0] at g0 g1
      rw [k2] at g2
      obtain ⟨x0, e0, _, b0⟩ := DataW.trod_int Tryd.underlying3 g0
      obtain ⟨x1, e1, _, b1⟩ := DataW.trod_int Tryd.underlying3 g1
      obtain ⟨x2, e2, _, _⟩ := DataW.trod_string Tryd.underlying9 g2
      simp at e0 e1 e2
      have a0 := hat 0 (by decide)
      have a1 := hat 1 (by decide)
      have a2 := hat 2 (by decide)
      rw [add_add] at a0 a1 a2
      refine ⟨⟨x0, x1, x2⟩, ?_, ?_, ?_, bounds_i64 b0, bounds_i64 b1⟩
      · rw [Nat.add_zero] at a0; rw [a0]; simp [e0]
      · rw [a1]; simp [e1]
      · rw [a2]; simp [e2]
    obtain ⟨F, hF⟩ : ∃ F : Nat → Ed, ∀ i, i < len → W.cell? (ad.add (i * 3)) = some (.int .i64 (F i).what) ∧ W.cell? (ad.add (i * 3 + 1)) = some (.int .i64 (F i).n) ∧ W.cell? (ad.add (i * 3 + 2)) = some (.string (F i).text) ∧ (-9223372036854775808 ≤ (F i).what ∧ (F i).what ≤ 9223372036854775807) ∧ (-9223372036854775808 ≤ (F i).n ∧ (F i).n ≤ 9223372036854775807) :=
      ⟨fun i => if h : i < len then (one i h).choose else ⟨0, 0, ⟨#[]⟩⟩, fun i h => by simp only [dif_pos h]; exact (one i h).choose_spec⟩
    refine ⟨(List.range len).map F, by simp, ⟨some ad, cap, by simp, fun j hj => ⟨ad, rfl, ?_⟩⟩, fun x hx => ?_⟩
    · have hj' : j < len := by simpa using hj
      obtain ⟨h0, h1, h2, _⟩ := hF j hj'
      simp only [List.getElem_map, List.getElem_range]
      exact ⟨h0, h1, h2⟩
    · rw [List.mem_map] at hx
      obtain ⟨j, hj, rfl⟩ := hx
      exact (hF j (List.mem_range.1 hj)).2.2.2
end
end Go.Proofs.YtjicnffafhbmbaaDoor
