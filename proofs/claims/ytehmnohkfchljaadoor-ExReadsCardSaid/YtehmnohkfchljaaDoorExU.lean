/-
  PROVED HERE: the memory of ex.path; the pieces of a text are not many. Conditions: as each theorem states.
-/
import Derived.Test.YtehmnohkfchljaaDoorExA
import Derived.Test.YtehmnohkfchljaaDoorTac
namespace Go.Proofs.YtehmnohkfchljaaDoor.Ex
open Go.RowKit Go.Shelf Spl Go.Proofs.YtehmnohkfchljaaDoor.Seq
/-- append of one element, in a fence. -/
theorem own_append1_in {F : Fence} {n : Nat} {P : Program} {w : World} {ops : Array Oper} {rest : List Oper} {o : Oper} {a : Act} {Q : Exit → Act → World → Prop} (hgd : o.guard = none) (s x : Operand) (t : TypeId)
    (ho : o.op = .call { callee := .builtin .append, args := #[s, x], argTypes := #[t, t] })
    (B E : Nat) (z : Value) (bytes : Nat) (ht : P.underlying t = some (.slice E)) (hinfo : (P.info? E).map (fun i => (i.zero, i.size, i.bytes)) = some (some z, 1, bytes)) (hzs : z.cells.size = 1)
    (v : Value) (xs : List Value) (hs : a.eval s = v) (hown : Own w B E v xs)
    (g c : Nat) (u : Value) (hx : a.eval x = .slice (some ⟨g, 0, none⟩) 1 c) (hnew : w.cell? ⟨g, 0, none⟩ = some u) (h1 : u.oneCell' = true)
    (hlen : (xs.length + 1) * bytes ≤ 1000000000000) (hlen2 : xs.length + 1 ≤ 1000000000000) (hbase : B ≤ w.heap.size)
    (h : ∀ v' w', Own w' B E v' (xs ++ [u]) → w.grownBy w' v.ownBlock → wpListIn F n P ops Q rest (a.put o.dst v') w') : wpListIn F n P ops Q (o :: rest) a w := by
  obtain ⟨i, hi, hz0, hz1, hz2⟩ := info_parts hinfo
  refine wpListIn_append_own w hgd s x t ho B E i z 1 bytes ht hi hz0 hz1 hz2 hzs (by decide) v xs.length xs hs hown ⟨g, 0, none⟩ 1 c [u] hx rfl (fun j u' hj => by
    rcases j with _ | j
    · simp at hj; subst hj; rw [Addr.add_mid]; exact hnew
    · simp at hj) (fun u' hu => by rw [List.mem_singleton.1 hu]; exact h1) (by unfold maxLen; omega) (by omega) hbase ?_
  intro v' w' h2 h3 _
  refine h v' w' ?_ h3
  unfold Own
  rw [List.length_append]
  exact h2
theorem split_tot (c : UInt8) : ∀ (k : Nat) (s : ByteArray), Lib.countB s (sp c) = k → (Lib.splitB (sp c) 0 k s).length ≤ s.size + 1 ∧ ∀ x ∈ Lib.splitB (sp c) 0 k s, x.size ≤ s.size
  | 0, s, _ => by
    refine ⟨by show 1 ≤ _; omega, fun x hx => ?_⟩
    have hx' : x ∈ [s] := hx
    rw [List.mem_singleton.1 hx']
    exact Nat.le_refl _
  | k + 1, s, h => by
    have hi : Lib.indexB s (sp c) ≠ -1 := fun e => by rw [Lib.countB_miss s (sp c) e] at h; cases h
    obtain ⟨i, hi', hb⟩ : ∃ i : Nat, Lib.indexB s (sp c) = i ∧ i + (sp c).size ≤ s.size := (Lib.indexB_cases s (sp c)).resolve_left hi
    have hc := Lib.countB_hit s (sp c) i (sp_one c) hi'
    have h1 : (sp c).size = 1 := rfl
    obtain ⟨h2, h3⟩ := split_tot c k (s.extract (i + (sp c).size) s.size) (by omega)
    rw [Lib.splitB_hit (sp c) 0 k s i hi']
    rw [ByteArray.size_extract] at h2 h3
    refine ⟨by rw [List.length_cons]; omega, fun x hx => ?_⟩
    rcases List.mem_cons.1 hx with rfl | hx
    · rw [ByteArray.size_extract]; omega
    · have := h3 x hx; omega
theorem PS_many (c : UInt8) (s : ByteArray) : (PS c s).length ≤ s.size + 1 := (split_tot c _ s rfl).1
theorem PS_small (c : UInt8) (s : ByteArray) (k : Nat) (h : k < (PS c s).length) : (PS c s)[k].size ≤ s.size := (split_tot c _ s rfl).2 _ (List.getElem_mem h)
/-- The low 62 bits. -/
theorem u64_low (a : Nat) (ha : a < 18446744073709551616) : bits .and .u64 (a : Int) 4611686018427387903 = ((a % 4611686018427387904 : Nat) : Int) := by
  show IntKind.u64.wrap ((BitVec.ofInt 64 (a : Int) &&& BitVec.ofInt 64 (4611686018427387903 : Int)).toNat : Nat) = _
  have e1 : ((a : Int) % ((2 ^ 64 : Nat) : Int)).toNat = a := by omega
  have e2 : ((4611686018427387903 : Int) % ((2 ^ 64 : Nat) : Int)).toNat = 2 ^ 62 - 1 := by decide
  rw [BitVec.toNat_and, BitVec.toNat_ofInt, BitVec.toNat_ofInt, e1, e2, Nat.and_two_pow_sub_one_eq_mod]
  have e : ∀ x : Int, IntKind.u64.wrap x = x % 18446744073709551616 := fun x => by simp [IntKind.wrap, IntKind.bits, IntKind.signed]
  rw [e]
  omega
theorem below_grown {A B : World} (h : Below A.heap.size A B) : A.grownBy B none := ⟨h.os, h.tape, h.output, h.size, fun k hk _ => h.block k hk⟩
/-- What a round may turn: from the loop's own blocks on nothing but cells; of the iterator's cells nothing. -/
structure St (W A B : World) : Prop where
  keeps : KeepsFrom (W.heap.size + 6) A B
  seq : KpS (W.heap.size + 3) A B
section
variable {W A B C : World}
theorem St.refl : St W A A := ⟨KeepsFrom.refl _ _, fun _ _ => rfl⟩
theorem St.trans (h : St W A B) (k : St W B C) : St W A C := ⟨h.keeps.trans k.keeps, fun j hj => (k.seq j hj).trans (h.seq j hj)⟩
theorem St.grown {row : Option Nat} (hg : A.grownBy B row) (hA : W.heap.size + 6 ≤ A.heap.size) (hr : ∀ r, row = some r → r < W.heap.size + 3 ∨ (W.heap.size + 6 ≤ r ∧ ∀ o, A.heap[r]? = some o → o.isCells = true)) : St W A B :=
  ⟨⟨hg.size, fun k o hk ho hc => (hg.block k (Array.getElem?_eq_some_iff.1 ho).1 (fun e => by
      rcases hr k e.symm with h | ⟨_, h⟩
      · omega
      · rw [h o ho] at hc; cases hc)).trans ho⟩,
   fun j hj => hg.block _ (by omega) (fun e => by rcases hr _ e.symm with h | ⟨h, _⟩ <;> omega)⟩
/-- The memory of a call of path, between two rounds. -/
structure LB (W : World) (v : Value) (l : List Int) (A : World) : Prop where
  bel : Below W.heap.size W A
  sz : W.heap.size + 6 ≤ A.heap.size
  b0 : Boxed A W.heap.size 22 (.slice none 0 0)
  b1 : Boxed A (W.heap.size + 1) 31 .nilIface
  b2 : Boxed A (W.heap.size + 1 + 1) 22 v
  own : Own A (W.heap.size + 6) 3 v (i64s l)
variable {v v' : Value} {l l' : List Int}
theorem LB.grown (h : LB W v l A) {row : Option Nat} (hg : A.grownBy B row) (hr : ∀ r, row = some r → W.heap.size + 3 ≤ r ∧ v.ownBlock ≠ some r) : LB W v l B := by
  have hn : ∀ k, k < W.heap.size + 3 → some k ≠ row := fun k hk e => by have := (hr k e.symm).1; omega
  refine ⟨h.bel.grown hg h.bel.size (fun k e => by have := (hr k e).1; omega), Nat.le_trans h.sz hg.size, h.b0.kept hg (hn _ (by omega)), h.b1.kept hg (hn _ (by omega)), h.b2.kept hg (hn _ (by omega)), h.own.keep hg ?_⟩
  cases row with
  | none => cases e : v.ownBlock <;> simp
  | some r => exact .inr (hr r rfl).2
theorem LB.below (h : LB W v l A) (hb : Below A.heap.size A B) : LB W v l B := h.grown (below_grown hb) (fun r e => by cases e)
theorem LB.st_below (h : LB W v l A) (hb : Below A.heap.size A B) : St W A B := St.grown (below_grown hb) h.sz (fun r e => by cases e)
theorem LB.alloc (h : LB W v l A) (o : Obj) : LB W v l (A.alloc o) := h.below ((Below.refl _ _).alloc (Nat.le_refl _) _)
theorem LB.turn (h : LB W v l A) (x : Value) : LB W v l (A.setCell ⟨W.heap.size + 3, 0, none⟩ x) :=
  h.grown (grownBy_setCell' A (W.heap.size + 3) x) (fun r e => by cases e; exact ⟨Nat.le_refl _, fun e => by have := (h.own.lt _ e).1; omega⟩)
theorem LB.own_cells (h : LB W v l A) : ∀ r, v.ownBlock = some r → W.heap.size + 6 ≤ r ∧ ∀ o, A.heap[r]? = some o → o.isCells = true := fun r e => by
  rcases h.own.2 with ⟨rfl, _⟩ | ⟨g, cap, cur, rfl, hb, hg, _⟩
  · cases e
  · cases e
    exact ⟨hb, fun o ho => by rw [hg] at ho; cases ho; rfl⟩
theorem LB.row (h : LB W v l A) (hg : A.grownBy B v.ownBlock) (hown : Own B (W.heap.size + 6) 3 v' (i64s l')) :
    Boxed B (W.heap.size + 1 + 1) 22 v ∧ LB W v' l' (B.setCell ⟨W.heap.size + 1 + 1, 0, none⟩ v') ∧ St W A (B.setCell ⟨W.heap.size + 1 + 1, 0, none⟩ v') := by
  have hn : ∀ k, k < W.heap.size + 6 → some k ≠ v.ownBlock := fun k hk e => by have := (h.own_cells k e.symm).1; omega
  have hg2 := grownBy_setCell' B (W.heap.size + 1 + 1) v'
  have b2 := h.b2.kept hg (hn _ (by omega))
  have hB := Nat.le_trans h.sz hg.size
  refine ⟨b2, ⟨(h.bel.grown hg h.bel.size (fun k e => by have := (h.own_cells k e).1; omega)).grown hg2 (Nat.le_trans h.bel.size hg.size) (fun k e => by cases e; omega), Nat.le_trans hB hg2.size, (h.b0.kept hg (hn _ (by omega))).kept hg2 (by simp; omega), (h.b1.kept hg (hn _ (by omega))).kept hg2 (by simp), b2.set v', hown.keep hg2 (.inr (fun e => by have := (hown.lt _ e).1; omega))⟩, ?_⟩
  exact (St.grown hg h.sz (fun r e => .inr (h.own_cells r e))).trans (St.grown hg2 hB (fun r e => by cases e; exact .inl (by omega)))
end
end Go.Proofs.YtehmnohkfchljaaDoor.Ex
