/-
  PROVED HERE: lists of api.Span in memory that a call owns, append of one. Conditions: as each theorem states.
-/
import Derived.Test.YthpenogkejoljaaRows
import Derived.Test.YthpenogkejoljaaOwn
import Derived.Deep.Slices
import Derived.Deep.Fields
import Derived.OpenShut
namespace Go.Proofs.Ythpenogkejoljaa
open Go.RowKit
abbrev Spn := Int × Int
def I64 (x : Int) : Prop := -9223372036854775808 ≤ x ∧ x ≤ 9223372036854775807
def spc (e : Spn) : List Value := [.int .i64 e.1, .int .i64 e.2]
def spCells (l : List Spn) : List Value := l.flatMap spc
theorem spCells_len (l : List Spn) : (spCells l).length = l.length * 2 := by
  induction l with
  | nil => rfl
  | cons e r ih => rw [spCells, List.flatMap_cons, List.length_append, ← spCells, ih, List.length_cons]; simp [spc]; omega
theorem spCells_snoc (l : List Spn) (e : Spn) : spCells l ++ spc e = spCells (l ++ [e]) := by simp [spCells]
theorem spCells_get (l : List Spn) (j i : Nat) (hj : j < l.length) (hi : i < 2) : (spCells l)[j * 2 + i]? = (spc l[j])[i]? := by
  induction l generalizing j with
  | nil => simp at hj
  | cons e r ih =>
    rw [spCells, List.flatMap_cons, ← spCells]
    cases j with
    | zero =>
      rw [Nat.zero_mul, Nat.zero_add, List.getElem?_append_left (by simp [spc]; omega)]
      rfl
    | succ j =>
      rw [List.getElem?_append_right (by simp [spc]; omega), show (j + 1) * 2 + i - (spc e).length = j * 2 + i by simp [spc]; omega]
      rw [ih j (by simpa using hj)]
      rfl
/-- The slice v shows the tokens l. -/
def Sps (w : World) (v : Value) (l : List Spn) : Prop :=
  ∃ a cap, v = .slice a l.length cap ∧ ∀ j (h : j < l.length), ∃ ad, a = some ad ∧ w.cell? (ad.add (j * 2)) = some (.int .i64 l[j].1) ∧ w.cell? (ad.add (j * 2 + 1)) = some (.int .i64 l[j].2)
theorem Sps.below {w w' : World} {v : Value} {l : List Spn} (h : Sps w v l) (hb : Below w.heap.size w w') : Sps w' v l := by
  obtain ⟨a, cap, e, hc⟩ := h
  refine ⟨a, cap, e, fun j hj => ?_⟩
  obtain ⟨ad, h1, h2, h3⟩ := hc j hj
  exact ⟨ad, h1, (hb.cell (p := ad.add (j * 2)) (World.block_lt_of_cell? w _ h2)).trans h2, (hb.cell (p := ad.add (j * 2 + 1)) (World.block_lt_of_cell? w _ h3)).trans h3⟩
theorem sadd_next (ad : Addr) (m i : Nat) : ad.add (m + (i + 1)) = ⟨(ad.add m).block, (ad.add m).off + (i + 1), none⟩ := by
  unfold Addr.add
  by_cases h : m = 0
  · subst h; simp
  · simp [h, Nat.add_assoc]
/-- The two cells of a token, as a walk reckons their addresses. -/
theorem Sps.at_ {w : World} {a : Option Addr} {n cap : Nat} {l : List Spn} (h : Sps w (.slice a n cap) l) (j : Nat) (hj : j < l.length) : ∃ ad, a = some ad ∧ w.cell? (ad.add (j * 2)) = some (.int .i64 l[j].1) ∧ w.cell? ⟨(ad.add (j * 2)).block, (ad.add (j * 2)).off + 1, none⟩ = some (.int .i64 l[j].2) := by
  obtain ⟨a', cap', e, hc⟩ := h
  simp only [Value.slice.injEq] at e
  obtain ⟨rfl, _, _⟩ := e
  obtain ⟨ad, h1, h2, h3⟩ := hc j hj
  exact ⟨ad, h1, h2, by rw [← sadd_next ad (j * 2) 0]; exact h3⟩
/-- Tokens in a list of the call's own. -/
def OwnS (w : World) (B : Nat) (v : Value) (l : List Spn) : Prop := w.ownsRow B 26 2 v l.length (spCells l)
theorem ownS_nil (w : World) (B : Nat) : OwnS w B (.slice none 0 0) [] := World.ownsRow_nil w B _ 2
theorem OwnS.alloc {w : World} {B : Nat} {v : Value} {l : List Spn} (h : OwnS w B v l) (o : Obj) : OwnS (w.alloc o) B v l := World.ownsRow.alloc h o
theorem OwnS.drew {w : World} {B : Nat} {v : Value} {l : List Spn} (h : OwnS w B v l) : OwnS w.drew B v l := h
theorem OwnS.drewN {w : World} {B : Nat} {v : Value} {l : List Spn} (h : OwnS w B v l) (n : Nat) : OwnS (w.drewN n) B v l := h
theorem OwnS.below {w w' : World} {B : Nat} {v : Value} {l : List Spn} (h : OwnS w B v l) (hb : Below w.heap.size w w') : OwnS w' B v l :=
  World.ownsRow.kept (row := none) h ⟨hb.os, hb.tape, hb.output, hb.size, fun k hk _ => hb.block k hk⟩ (by cases v.ownBlock <;> simp)
theorem OwnS.len {w : World} {B : Nat} {v : Value} {l : List Spn} (h : OwnS w B v l) : ∃ a cap, v = .slice a l.length cap := by
  rcases h.2 with ⟨rfl, h0⟩ | ⟨g, cap, cur, rfl, _⟩
  · exact ⟨none, 0, by rw [h0]⟩
  · exact ⟨_, _, rfl⟩
theorem OwnS.sps {w : World} {B : Nat} {v : Value} {l : List Spn} (h : OwnS w B v l) : Sps w v l := by
  have h' := h
  rcases h.2 with ⟨rfl, h0⟩ | ⟨g, cap, cur, rfl, _, hg, _⟩
  · obtain rfl : l = [] := List.eq_nil_of_length_eq_zero h0
    exact ⟨none, 0, rfl, fun j hj => absurd hj (Nat.not_lt_zero j)⟩
  · refine ⟨_, cap, rfl, fun j hj => ⟨_, rfl, ?_, ?_⟩⟩
    · exact World.ownsRow.cells h' (g := g) rfl (j * 2) _ (by have := spCells_get l j 0 hj (by decide); simpa [spc] using this)
    · exact World.ownsRow.cells h' (g := g) rfl (j * 2 + 1) _ (by rw [spCells_get l j 1 hj (by decide)]; rfl)
theorem infoSpn : (Try.prog.info? 26).map (fun i => (i.zero, i.size, i.bytes)) = some (some (.agg #[.int .i64 0, .int .i64 0]), 2, 16) := by kernel_rfl
section
variable {w : World}
/-- append of one token, which was laid into a block of its own. -/
theorem ownS_append1 {ops : Array Oper} {rest : List Oper} {o : Oper} {a : Act} {Q : Exit → Act → World → Prop} (hgd : o.guard = none) (s x : Operand)
    (ho : o.op = .call { callee := .builtin .append, args := #[s, x], argTypes := #[22, 22] })
    (B : Nat) (v : Value) (l : List Spn) (hs : a.eval s = v) (hown : OwnS w B v l)
    (g c : Nat) (e : Spn) (hx : a.eval x = .slice (some ⟨g, 0, none⟩) 1 c) (hnew : w.heap[g]? = some (.cells #[.int .i64 e.1, .int .i64 e.2] 26 (0, 0)))
    (hlen : l.length + 1 ≤ 100000000) (hbase : B ≤ w.heap.size)
    (h : ∀ v' w', OwnS w' B v' (l ++ [e]) → w.grownBy w' v.ownBlock → Below B w w' → (v'.ownBlock = v.ownBlock ∨ v'.ownBlock = some w.heap.size) → wpList Try.prog ops Q rest (a.put o.dst v') w') : wpList Try.prog ops Q (o :: rest) a w := by
  obtain ⟨i, hi, hz0, hz1, hz2⟩ := info_parts infoSpn
  refine wpList_append_own_at w hgd s x 22 ho B 26 i _ 2 16 Try.underlying22 hi hz0 hz1 hz2 rfl (by decide) v l.length (spCells l) hs hown ⟨g, 0, none⟩ 1 c (spc e) hx rfl ?_ (by simp [spc, Value.oneCell']) (by unfold maxLen; omega) (by omega) hbase ?_
  · intro j u hu
    rw [Addr.add_mid, Nat.zero_add]
    have e1 : w.cell? ⟨g, j, none⟩ = (#[Value.int .i64 e.1, .int .i64 e.2] : Array Value)[j]? := by simp [World.cell?, hnew]
    rw [e1]
    simpa [spc] using hu
  · intro v' w' h2 h3 _ h5
    refine h v' w' ?_ h3 ((Below.refl B w).grown h3 hbase (fun k hk => (World.ownsRow.lt hown k hk).1)) h5
    unfold OwnS
    rw [List.length_append, ← spCells_snoc]
    exact h2
end
/-- append of one span, at a step of a region that draws its order. -/
theorem ownS_append_step {w : World} {ops : Array Oper} {o : Oper} {a : Act} {K : Act → World → Prop} {Q : Exit → Act → World → Prop} {F : Prop} (hgd : o.guard = none) (s x : Operand)
    (ho : o.op = .call { callee := .builtin .append, args := #[s, x], argTypes := #[22, 22] })
    (B : Nat) (v : Value) (l : List Spn) (hs : a.eval s = v) (hown : OwnS w B v l)
    (g c : Nat) (e : Spn) (hx : a.eval x = .slice (some ⟨g, 0, none⟩) 1 c) (hnew : w.heap[g]? = some (.cells #[.int .i64 e.1, .int .i64 e.2] 26 (0, 0)))
    (hlen : l.length + 1 ≤ 100000000) (hbase : B ≤ w.heap.size)
    (h : ∀ v' w', OwnS w' B v' (l ++ [e]) → w.grownBy w' v.ownBlock → Below B w w' → (v'.ownBlock = v.ownBlock ∨ v'.ownBlock = some w.heap.size) → K (a.put o.dst v') w') :
    if Region.wanted o (yielded ops a.tmps) = true then Oper.wp Try.prog o a w K Q else F := by
  have hw : Region.wanted o (yielded ops a.tmps) = true := by simp [Region.wanted, hgd]
  rw [if_pos hw]
  obtain ⟨i, hi, hz0, hz1, hz2⟩ := info_parts infoSpn
  obtain ⟨v', w', hr, h2, h3, _, h5⟩ := run_append_own_at (P := Try.prog) w B 22 o.type 26 i _ 2 16 Try.underlying22 hi hz0 hz1 hz2 rfl (by decide) v l.length (spCells l) hown ⟨g, 0, none⟩ 1 c (spc e) rfl (fun j u hu => by
    rw [Addr.add_mid, Nat.zero_add]
    have e1 : w.cell? ⟨g, j, none⟩ = (#[Value.int .i64 e.1, .int .i64 e.2] : Array Value)[j]? := by simp [World.cell?, hnew]
    rw [e1]
    simpa [spc] using hu) (by simp [spc, Value.oneCell']) (by unfold maxLen; omega) (by omega) hbase
  unfold Oper.wp execOp
  simp only [ho, resolve, invoke, builtin, Sem.run_bind, Sem.run_pure, Result.andThen_ok, List.map_toArray, List.map_cons, List.map_nil, hs, hx, hr]
  refine h v' w' ?_ h3 ((Below.refl B w).grown h3 hbase (fun k hk => (World.ownsRow.lt hown k hk).1)) h5
  unfold OwnS
  rw [List.length_append, ← spCells_snoc]
  exact h2
/-- A store into the To of a span. -/
theorem spCells_set (l : List Spn) (j : Nat) (t : Int) (hj : j < l.length) : (spCells l).set (j * 2 + 1) (.int .i64 t) = spCells (l.set j (l[j].1, t)) := by
  induction l generalizing j with
  | nil => simp at hj
  | cons e r ih =>
    cases j with
    | zero => simp [spCells, spc]
    | succ j =>
      have h := ih j (by simpa using hj)
      rw [spCells, List.flatMap_cons, ← spCells, List.set_append_right _ _ (by simp [spc]; omega), show (j + 1) * 2 + 1 - (spc e).length = j * 2 + 1 by simp [spc]; omega, h]
      simp [spCells]
theorem OwnS.setTo {w : World} {B g n cap : Nat} {l : List Spn} (h : OwnS w B (.slice (some ⟨g, 0, none⟩) n cap) l) (j : Nat) (hj : j < l.length) (t : Int) : OwnS (w.setCell ⟨g, j * 2 + 1, none⟩ (.int .i64 t)) B (.slice (some ⟨g, 0, none⟩) n cap) (l.set j (l[j].1, t)) := by
  obtain ⟨a', c', e⟩ := h.len
  simp only [Value.slice.injEq] at e
  obtain ⟨_, rfl, _⟩ := e
  unfold OwnS
  rw [List.length_set, ← spCells_set l j t hj]
  exact (World.ownsRow.stored h (j * 2 + 1) (.int .i64 t)).1
section
open Go.WideShapes Go.ChangeShapes Go.Deep
variable {H : Type} {enc : TypeId × Value → H}
theorem sps_of_trod {W : World} {sp : Nat → Bool} {held : Bool} {a : Option Addr} {len cap : Nat} {d : DataW H} {p : List MemPlace}
    (h : DataW.Trod enc Try.prog W 0 sp held 22 (.slice a len cap) d p) : ∃ l : List Spn, l.length = len ∧ Sps W (.slice a len cap) l ∧ ∀ x ∈ l, I64 x.1 ∧ I64 x.2 := by
  obtain ⟨f, hf⟩ := h
  have hC : Try.prog.cellsOf 26 = 2 := by kernel_rfl
  rcases open_slice Try.underlying22 hf with ⟨hcs, _⟩ | ⟨ad, len', cap', m, n, D, Pl, hcs, _, hl, _, hm, _, hi⟩
  · simp [Value.cells] at hcs
    obtain ⟨rfl, rfl, rfl⟩ := hcs
    exact ⟨[], rfl, ⟨none, 0, rfl, fun j hj => absurd hj (Nat.not_lt_zero j)⟩, fun x hx => (by cases hx)⟩
  · simp [Value.cells] at hcs
    obtain ⟨rfl, rfl, rfl⟩ := hcs
    have hml : len ≤ m := by rw [hm]; split <;> omega
    have one : ∀ i, i < len → ∃ e : Spn, W.cell? (ad.add (i * 2)) = some (.int .i64 e.1) ∧ W.cell? (ad.add (i * 2 + 1)) = some (.int .i64 e.2) ∧ I64 e.1 ∧ I64 e.2 := by
      intro i hil
      obtain ⟨cs', hc, ht⟩ := hi i (by omega)
      rw [hC] at hc
      obtain ⟨_, hcl, hat⟩ := World.cells?_some hc
      obtain ⟨ys, n', _, _, _, hyl, hg⟩ := DataW.trod_struct Try.underlying26 ht
      rcases cs' with _ | ⟨c0, _ | ⟨c1, _ | ⟨_, _⟩⟩⟩ <;> simp only [List.length_nil, List.length_cons] at hcl <;> try omega
      rcases ys with _ | ⟨y0, _ | ⟨y1, _ | ⟨_, _⟩⟩⟩ <;> simp only [List.length_nil, List.length_cons] at hyl <;> try (simp at hyl)
      have k0 : Try.prog.cellsOf 3 = 1 := by kernel_rfl
      have g0 : DataW.trod enc Try.prog W 0 sp held n' 3 (([c0, c1].drop 0).take (Try.prog.cellsOf 3)) = some y0 := hg 0 _ rfl
      have g1 : DataW.trod enc Try.prog W 0 sp held n' 3 (([c0, c1].drop 1).take (Try.prog.cellsOf 3)) = some y1 := hg 1 _ rfl
      rw [k0] at g0 g1
      obtain ⟨x0, e0, _, b0⟩ := DataW.trod_int Try.underlying3 g0
      obtain ⟨x1, e1, _, b1⟩ := DataW.trod_int Try.underlying3 g1
      simp at e0 e1
      have a0 := hat 0 (by decide)
      have a1 := hat 1 (by decide)
      rw [add_add] at a0 a1
      refine ⟨⟨x0, x1⟩, ?_, ?_, bounds_i64 b0, bounds_i64 b1⟩
      · rw [Nat.add_zero] at a0; rw [a0]; simp [e0]
      · rw [a1]; simp [e1]
    obtain ⟨F, hF⟩ : ∃ F : Nat → Spn, ∀ i, i < len → W.cell? (ad.add (i * 2)) = some (.int .i64 (F i).1) ∧ W.cell? (ad.add (i * 2 + 1)) = some (.int .i64 (F i).2) ∧ I64 (F i).1 ∧ I64 (F i).2 :=
      ⟨fun i => if h : i < len then (one i h).choose else ⟨0, 0⟩, fun i h => by simp only [dif_pos h]; exact (one i h).choose_spec⟩
    refine ⟨(List.range len).map F, by simp, ⟨some ad, cap, by simp, fun j hj => ⟨ad, rfl, ?_⟩⟩, fun x hx => ?_⟩
    · have hj' : j < len := by simpa using hj
      obtain ⟨h0, h1, _⟩ := hF j hj'
      simp only [List.getElem_map, List.getElem_range]
      exact ⟨h0, h1⟩
    · obtain ⟨i, hi, rfl⟩ := List.mem_map.1 hx
      exact (hF i (List.mem_range.1 hi)).2.2
end
end Go.Proofs.Ythpenogkejoljaa
