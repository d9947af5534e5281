/-
  PROVED HERE: the memory of xxd.Load; what it puts at a place. Conditions: as each theorem states.
-/
import Derived.Test.YtnbpninnanjemaaDoorXlS
import Derived.Test.YtnbpninnanjemaaDoorOwn
import Derived.Test.YtnbpninnanjemaaDoorErrB
import Derived.Lib.BufferWrite
namespace Go.Proofs.YtnbpninnanjemaaDoor.Xl
open Go.RowKit Go.Shelf Lz
/-- What is put, in two steps: 0 up to the end, then the bytes over it. -/
def pad (out : List UInt8) (n : Nat) : List UInt8 := out ++ List.replicate (n - out.length) 0
theorem pad_len (out : List UInt8) (n : Nat) : (pad out n).length = max out.length n := by simp [pad]; omega
theorem pad_snoc {out : List UInt8} {n : Nat} (h : out.length ≤ n) : pad out n ++ [0] = pad out (n + 1) := by
  unfold pad
  rw [show n + 1 - out.length = (n - out.length) + 1 by omega, List.replicate_succ', List.append_assoc]
theorem pad_self (out : List UInt8) : pad out out.length = out := by simp [pad]
theorem pad_getD (out : List UInt8) (n k : Nat) : (pad out n).getD k 0 = out.getD k 0 := by
  unfold pad
  rw [List.getD_eq_getElem?_getD, List.getD_eq_getElem?_getD]
  by_cases hko : k < out.length
  · rw [List.getElem?_append_left hko]
  · rw [List.getElem?_append_right (by omega), List.getElem?_eq_none (l := out) (by omega), List.getElem?_replicate]
    split <;> rfl
theorem take_mid {α : Type} (c t : List α) (n a : Nat) (h : a + t.length ≤ n) (hn : n ≤ c.length) : (c.take a ++ t ++ c.drop (a + t.length)).take n = (c.take n).take a ++ t ++ (c.take n).drop (a + t.length) := by
  rw [List.take_take, Nat.min_eq_left (by omega), List.drop_take, List.take_append, List.take_of_length_le (by simp; omega)]
  congr 2
  simp
  omega
theorem setRow_same {w : World} {g : Nat} {cur : Array Value} {t : TypeId} {fr : Nat × Nat} (h : w.heap[g]? = some (.cells cur t fr)) (cs : Array Value) : (w.setRow g cs).heap[g]? = some (.cells cs t fr) := by
  obtain ⟨hlt, hk⟩ := Array.getElem?_eq_some_iff.1 h
  show (w.heap.modify g _)[g]? = _
  rw [Array.getElem?_eq_getElem (by rw [Array.size_modify]; exact hlt), Array.getElem_modify_self, hk]
theorem setRow_other {w : World} {g k : Nat} (cs : Array Value) (h : k ≠ g) : (w.setRow g cs).heap[k]? = w.heap[k]? := by
  show (w.heap.modify g _)[k]? = _
  rw [Array.getElem?_modify, if_neg (fun e => h e.symm)]
theorem put_eq (out : List UInt8) (a : Nat) (acc : List UInt8) (h : acc.length ≠ 0) :
    (pad out (a + acc.length)).take a ++ acc ++ (pad out (a + acc.length)).drop (a + acc.length) = put out a acc := by
  have hp := pad_len out (a + acc.length)
  apply List.ext_getElem
  · rw [put_len, if_neg h]
    simp only [List.length_append, List.length_take, List.length_drop]
    omega
  · intro k h1 h2
    have hg := put_get out a acc k h2
    rw [List.getD_eq_getElem?_getD, List.getElem?_eq_getElem h2, Option.getD_some] at hg
    rw [hg]
    have hpk : ∀ k (hk : k < (pad out (a + acc.length)).length), (pad out (a + acc.length))[k] = out.getD k 0 := fun k hk => by
      have := pad_getD out (a + acc.length) k
      rw [List.getD_eq_getElem?_getD, List.getElem?_eq_getElem hk, Option.getD_some] at this
      exact this
    rw [put_len, if_neg h] at h2
    by_cases c1 : k < a
    · rw [List.getElem_append_left (by simp; omega), List.getElem_append_left (by simp; omega), List.getElem_take, hpk, if_neg (by omega)]
    · by_cases c2 : k < a + acc.length
      · rw [List.getElem_append_left (by simp; omega), List.getElem_append_right (by simp; omega), if_pos (by omega), List.getD_eq_getElem?_getD, List.getElem?_eq_getElem (by omega), Option.getD_some]
        congr 1
        simp
        omega
      · rw [List.getElem_append_right (by simp; omega), List.getElem_drop, if_neg (by omega), hpk]
        congr 1
        simp
        omega
theorem own_copy {P : Program} {w : World} {B E g n cap : Nat} {l : List UInt8} (h : Own w B E (.slice (some ⟨g, 0, none⟩) n cap) (u8s l)) (dT sT ty : TypeId) (hu : P.underlying dT = some (.slice E)) (hs : (P.info? E).map (·.size) = some 1) (a dLen dCap : Nat) (t : ByteArray) (hle : t.size ≤ dLen) (ha : a + t.size ≤ l.length) :
    ∃ w', (Builtin.copy_ #[dT, sT] ty #[.slice (some ⟨g, a, none⟩) dLen dCap, .string t]).run P w = .ok (goInt t.size) w' ∧ Own w' B E (.slice (some ⟨g, 0, none⟩) n cap) (u8s (l.take a ++ t.data.toList ++ l.drop (a + t.size))) ∧ w.grownBy w' (some g) := by
  have hl := u8s_len l
  rcases h.2 with ⟨h', _⟩ | ⟨g', cap', cur, h', hb, hg, h4, h5, h6, h7⟩
  · simp at h'
  · simp only [Value.slice.injEq, Option.some.injEq, Addr.mk.injEq] at h'
    obtain ⟨⟨rfl, _⟩, rfl, rfl⟩ := h'
    rw [hl] at h4 h7
    have hts : t.data.toList.length = t.size := by rw [Lib.size_eq]
    refine ⟨_, Lib.run_copy_row_string w dT sT ty E g a dLen dCap t cur E hu hs hg hle (by omega), ?_, ?_⟩
    · unfold Own
      have hln : (u8s (l.take a ++ t.data.toList ++ l.drop (a + t.size))).length = (u8s l).length := by
        rw [u8s_len, hl]
        simp only [List.length_append, List.length_take, List.length_drop, hts]
        omega
      rw [hln, hl]
      refine ⟨by rw [hln, hl, Nat.mul_one], .inr ⟨g, cap, _, rfl, hb, setRow_same hg _, h4, h5, ?_, ?_⟩⟩
      · have := Lib.byteCells_length t.data.toList
        have hc : cur.size = cur.toList.length := by simp
        simp only [List.size_toArray, List.length_append, List.length_take, List.length_drop]
        omega
      · have hbc : (Lib.byteCells t.data.toList).length = t.size := by rw [Lib.byteCells_length, hts]
        have hm := take_mid cur.toList (Lib.byteCells t.data.toList) l.length a (by omega) (by have : cur.size = cur.toList.length := by simp
                                                                                               omega)
        rw [hbc] at hm
        rw [Nat.mul_one] at h7 ⊢
        rw [h7] at hm
        rw [List.toList_toArray, hm]
        simp [u8s, Lib.byteCells, List.map_take, List.map_drop]
    · exact ⟨rfl, rfl, rfl, by simp, fun k _ hk => setRow_other _ (fun e => hk (by rw [e]))⟩
/-- append of one element, in a fence. -/
theorem own_append1_in {F : Fence} {n : Nat} {P : Program} {w : World} {ops : Array Oper} {rest : List Oper} {o : Oper} {a : Act} {Q : Exit → Act → World → Prop} (hgd : o.guard = none) (s x : Operand) (t : TypeId)
    (ho : o.op = .call { callee := .builtin .append, args := #[s, x], argTypes := #[t, t] })
    (B E : Nat) (z : Value) (bytes : Nat) (ht : P.underlying t = some (.slice E)) (hinfo : (P.info? E).map (fun i => (i.zero, i.size, i.bytes)) = some (some z, 1, bytes)) (hzs : z.cells.size = 1)
    (v : Value) (xs : List Value) (hs : a.eval s = v) (hown : Own w B E v xs)
    (g c : Nat) (u : Value) (hx : a.eval x = .slice (some ⟨g, 0, none⟩) 1 c) (hnew : w.cell? ⟨g, 0, none⟩ = some u) (h1 : u.oneCell' = true)
    (hlen : (xs.length + 1) * bytes ≤ 1000000000000) (hlen2 : xs.length + 1 ≤ 1000000000000) (hbase : B ≤ w.heap.size)
    (h : ∀ v' w', Own w' B E v' (xs ++ [u]) → w.grownBy w' v.ownBlock → wpListIn F n P ops Q rest (a.put o.dst v') w') : wpListIn F n P ops Q (o :: rest) a w := by
  obtain ⟨i, hi, hz0, hz1, hz2⟩ := info_parts hinfo
  refine wpListIn_append_own w hgd s x t ho B E i z 1 bytes ht hi hz0 hz1 hz2 hzs (by decide) v xs.length xs hs hown ⟨g, 0, none⟩ 1 c [u] hx rfl (fun j u' hj => by
    rcases j with _ | j
    · simp at hj; subst hj; rw [Addr.add_mid]; exact hnew
    · simp at hj) (fun u' hu => by rw [List.mem_singleton.1 hu]; exact h1) (by unfold maxLen; omega) (by omega) hbase ?_
  intro v' w' h2 h3 _
  refine h v' w' ?_ h3
  unfold Own
  rw [List.length_append]
  exact h2
/-- What a round may turn: from the loop's own blocks on nothing but cells; of the iterator's cells nothing. -/
structure St (W A B : World) : Prop where
  keeps : KeepsFrom (W.heap.size + 7) A B
  seq : KpS (W.heap.size + 4) A B
section
variable {W A B C : World}
theorem St.refl : St W A A := ⟨KeepsFrom.refl _ _, fun _ _ => rfl⟩
theorem St.trans (h : St W A B) (k : St W B C) : St W A C := ⟨h.keeps.trans k.keeps, fun j hj => (k.seq j hj).trans (h.seq j hj)⟩
theorem St.grown {row : Option Nat} (hg : A.grownBy B row) (hA : W.heap.size + 7 ≤ A.heap.size) (hr : ∀ r, row = some r → r < W.heap.size + 4 ∨ (W.heap.size + 7 ≤ r ∧ ∀ o, A.heap[r]? = some o → o.isCells = true)) : St W A B :=
  ⟨⟨hg.size, fun k o hk ho hc => (hg.block k (Array.getElem?_eq_some_iff.1 ho).1 (fun e => by
      rcases hr k e.symm with h | ⟨_, h⟩
      · omega
      · rw [h o ho] at hc; cases hc)).trans ho⟩,
   fun j hj => hg.block _ (by omega) (fun e => by rcases hr _ e.symm with h | ⟨h, _⟩ <;> omega)⟩
theorem below_grown (h : Below A.heap.size A B) : A.grownBy B none := ⟨h.os, h.tape, h.output, h.size, fun k hk _ => h.block k hk⟩
/-- The memory of a call of Load, between two rounds. -/
structure LB (W : World) (v : Value) (out : List UInt8) (f : Nat) (A : World) : Prop where
  bel : Below W.heap.size W A
  sz : W.heap.size + 7 ≤ A.heap.size
  b0 : Boxed A W.heap.size 9 (.string ⟨#[]⟩)
  b1 : Boxed A (W.heap.size + 1) 26 .nilIface
  b2 : Boxed A (W.heap.size + 1 + 1) 41 v
  b3 : Boxed A (W.heap.size + 1 + 1 + 1) 3 (.int .i64 (f : Int))
  own : Own A (W.heap.size + 7) 5 v (u8s out)
variable {v v' : Value} {out out' : List UInt8} {f f' : Nat}
theorem LB.grown (h : LB W v out f A) {row : Option Nat} (hg : A.grownBy B row) (hr : ∀ r, row = some r → W.heap.size + 4 ≤ r ∧ v.ownBlock ≠ some r) : LB W v out f B := by
  have hn : ∀ k, k < W.heap.size + 4 → some k ≠ row := fun k hk e => by have := (hr k e.symm).1; omega
  refine ⟨h.bel.grown hg h.bel.size (fun k e => by have := (hr k e).1; omega), Nat.le_trans h.sz hg.size, h.b0.kept hg (hn _ (by omega)), h.b1.kept hg (hn _ (by omega)), h.b2.kept hg (hn _ (by omega)), h.b3.kept hg (hn _ (by omega)), h.own.keep hg ?_⟩
  cases row with
  | none => cases e : v.ownBlock <;> simp
  | some r => exact .inr (hr r rfl).2
theorem LB.below (h : LB W v out f A) (hb : Below A.heap.size A B) : LB W v out f B := h.grown (below_grown hb) (fun r e => by cases e)
theorem LB.st_below (h : LB W v out f A) (hb : Below A.heap.size A B) : St W A B := St.grown (below_grown hb) h.sz (fun r e => by cases e)
theorem LB.alloc (h : LB W v out f A) (o : Obj) : LB W v out f (A.alloc o) := h.below ((Below.refl _ _).alloc (Nat.le_refl _) _)
theorem LB.drew (h : LB W v out f A) : LB W v out f A.drew := h.below (Below.refl _ _).drew
/-- The iterator turns its own cell. -/
theorem LB.turn (h : LB W v out f A) (x : Value) : LB W v out f (A.setCell ⟨W.heap.size + 4, 0, none⟩ x) :=
  h.grown (grownBy_setCell' A (W.heap.size + 4) x) (fun r e => by cases e; exact ⟨Nat.le_refl _, fun e => by have := (h.own.lt _ e).1; omega⟩)
theorem LB.from_ (h : LB W v out f A) : LB W v out f' (A.setCell ⟨W.heap.size + 1 + 1 + 1, 0, none⟩ (.int .i64 (f' : Int))) :=
  have hg := grownBy_setCell' A (W.heap.size + 1 + 1 + 1) (.int .i64 (f' : Int))
  ⟨h.bel.grown hg h.bel.size (fun k e => by cases e; omega), Nat.le_trans h.sz hg.size, h.b0.kept hg (by simp; omega), h.b1.kept hg (by simp), h.b2.kept hg (by simp), h.b3.set _, h.own.keep hg (.inr (fun e => by have := (h.own.lt _ e).1; omega))⟩
theorem LB.st_from (h : LB W v out f A) (x : Value) : St W A (A.setCell ⟨W.heap.size + 1 + 1 + 1, 0, none⟩ x) :=
  St.grown (grownBy_setCell' A (W.heap.size + 1 + 1 + 1) x) h.sz (fun r e => by cases e; exact .inl (by omega))
theorem LB.own_cells (h : LB W v out f A) : ∀ r, v.ownBlock = some r → W.heap.size + 7 ≤ r ∧ ∀ o, A.heap[r]? = some o → o.isCells = true := fun r e => by
  rcases h.own.2 with ⟨rfl, _⟩ | ⟨g, cap, cur, rfl, hb, hg, _⟩
  · cases e
  · cases e
    exact ⟨hb, fun o ho => by rw [hg] at ho; cases ho; rfl⟩
/-- The row turns (append, copy), and the variable's box with it. -/
theorem LB.row (h : LB W v out f A) (hg : A.grownBy B v.ownBlock) (hown : Own B (W.heap.size + 7) 5 v' (u8s out')) :
    Boxed B (W.heap.size + 1 + 1) 41 v ∧ LB W v' out' f (B.setCell ⟨W.heap.size + 1 + 1, 0, none⟩ v') ∧ St W A (B.setCell ⟨W.heap.size + 1 + 1, 0, none⟩ v') := by
  have hn : ∀ k, k < W.heap.size + 7 → some k ≠ v.ownBlock := fun k hk e => by have := (h.own_cells k e.symm).1; omega
  have hg2 := grownBy_setCell' B (W.heap.size + 1 + 1) v'
  have b2 := h.b2.kept hg (hn _ (by omega))
  have hB := Nat.le_trans h.sz hg.size
  refine ⟨b2, ⟨(h.bel.grown hg h.bel.size (fun k e => by have := (h.own_cells k e).1; omega)).grown hg2 (Nat.le_trans h.bel.size hg.size) (fun k e => by cases e; omega), Nat.le_trans hB hg2.size, (h.b0.kept hg (hn _ (by omega))).kept hg2 (by simp; omega), (h.b1.kept hg (hn _ (by omega))).kept hg2 (by simp), b2.set v', (h.b3.kept hg (hn _ (by omega))).kept hg2 (by simp), hown.keep hg2 (.inr (fun e => by have := (hown.lt _ e).1; omega))⟩, ?_⟩
  exact (St.grown hg h.sz (fun r e => .inr (h.own_cells r e))).trans (St.grown hg2 hB (fun r e => by cases e; exact .inl (by omega)))
/-- .. the box left as it is. -/
theorem LB.row0 (h : LB W v out f A) (hg : A.grownBy B v.ownBlock) (hown : Own B (W.heap.size + 7) 5 v (u8s out')) : LB W v out' f B ∧ St W A B := by
  have hn : ∀ k, k < W.heap.size + 7 → some k ≠ v.ownBlock := fun k hk e => by have := (h.own_cells k e.symm).1; omega
  exact ⟨⟨h.bel.grown hg h.bel.size (fun k e => by have := (h.own_cells k e).1; omega), Nat.le_trans h.sz hg.size, h.b0.kept hg (hn _ (by omega)), h.b1.kept hg (hn _ (by omega)), h.b2.kept hg (hn _ (by omega)), h.b3.kept hg (hn _ (by omega)), hown⟩, St.grown hg h.sz (fun r e => .inr (h.own_cells r e))⟩
end
def lenAt (b : Nat) (A : World) : Nat := match A.cell? ⟨b, 0, none⟩ with | some (.slice _ n _) => n | _ => 0
theorem lenAt_eq {W A : World} {a : Option Addr} {n c f : Nat} {out : List UInt8} (h : LB W (.slice a n c) out f A) : lenAt (W.heap.size + 1 + 1) A = n := by unfold lenAt; rw [h.b2.cell]
theorem u8s_zero (l : List UInt8) : u8s l ++ [.int .u8 0] = u8s (l ++ [0]) := u8s_snoc l 0
end Go.Proofs.YtnbpninnanjemaaDoor.Xl
