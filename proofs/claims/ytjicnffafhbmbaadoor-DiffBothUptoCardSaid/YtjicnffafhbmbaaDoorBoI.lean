/-
  PROVED HERE: the memory of the document's DiffBoth while it looks for what touches. Conditions: as each theorem states.
-/
import Derived.Test.YtjicnffafhbmbaaDoorBoD
import Derived.Test.YtjicnffafhbmbaaDoorBoH
namespace Go.Proofs.YtjicnffafhbmbaaDoor.Bo
open Go.RowKit Go.Proofs.YtjicnffafhbmbaaDoor.My
theorem Chv.kept {w w' : World} {v : Value} {l : List Ch} (h : Chv w v l) (hk : ∀ k, v.ownBlock = some k → w'.heap[k]? = w.heap[k]?) : Chv w' v l := by
  obtain ⟨a, cap, rfl, hl, hc⟩ := h
  refine ⟨a, cap, rfl, hl, fun j hj => ?_⟩
  obtain ⟨ad, rfl, h2, h3, h4⟩ := hc j hj
  have e : w'.heap[ad.block]? = w.heap[ad.block]? := hk ad.block rfl
  have hb : ∀ m, (ad.add m).block = ad.block := fun m => by unfold Addr.add; split <;> rfl
  exact ⟨ad, rfl, (World.cell?_of_block (by rw [hb]; exact e)).trans h2, (World.cell?_of_block (by rw [hb]; exact e)).trans h3, (World.cell?_of_block (by rw [hb]; exact e)).trans h4⟩
theorem Chv.room {w : World} {v : Value} {c : Ch} {l : List Ch} (h : Chv w v (c :: l)) : ∀ k, v.ownBlock = some k → k < w.heap.size := by
  obtain ⟨a, cap, rfl, hl, hc⟩ := h
  obtain ⟨ad, rfl, h2, h3, h4⟩ := hc 0 (by simp)
  intro k hk
  have : (ad.add (0 * 3)).block < w.heap.size := World.block_lt_of_cell? w _ h2
  rw [show (ad.add (0 * 3)).block = ad.block by unfold Addr.add; simp] at this
  cases hk
  exact this
/-- The list in the box G (slice v, changes l), and the other text's list v5 beside it. -/
structure Dm (w0 : World) (G : Nat) (v5 : Value) (Q : List Ch) (v : Value) (l : List Ch) (w : World) : Prop where
  own : OwnC 37 w w0.heap.size v l
  box : w.cell? ⟨G, 0, none⟩ = some v
  fz : w.frozen? ⟨G, 0, none⟩ = false
  nb : v.ownBlock ≠ some G
  lt : G < w.heap.size
  ge : w0.heap.size ≤ G
  yl : Chv w v5 Q
  yn : ∀ k, v5.ownBlock = some k → k ≠ G ∧ v.ownBlock ≠ some k ∧ k < w.heap.size
  bl : Below w0.heap.size w0 w
theorem Dm.below {w0 : World} {G : Nat} {v5 v : Value} {Q l : List Ch} {w w' : World} (h : Dm w0 G v5 Q v l w) (hb : Below w.heap.size w w') : Dm w0 G v5 Q v l w' :=
  ⟨h.own.below hb, (hb.cell (p := ⟨G, 0, none⟩) h.lt).trans h.box, keepFree hb h.box h.fz, h.nb, Nat.lt_of_lt_of_le h.lt hb.size, h.ge, h.yl.below hb, fun k hk => ⟨(h.yn k hk).1, (h.yn k hk).2.1, Nat.lt_of_lt_of_le (h.yn k hk).2.2 hb.size⟩, h.bl.trans (hb.mono h.bl.size)⟩
theorem Dm.app {w0 : World} {G : Nat} {v5 v v1 : Value} {Q l : List Ch} {q : Ch} {w w6 : World} (h : Dm w0 G v5 Q v l w) (ho : OwnC 37 w6 w0.heap.size v1 (l ++ [q])) (hg : w.grownBy w6 v.ownBlock) (hb : Below w0.heap.size w w6) (hat : v1.ownBlock = v.ownBlock ∨ v1.ownBlock = some w.heap.size) :
    w6.cell? ⟨G, 0, none⟩ = some v ∧ w6.frozen? ⟨G, 0, none⟩ = false ∧ Dm w0 G v5 Q v1 (l ++ [q]) (w6.setCell ⟨G, 0, none⟩ v1) := by
  have hG : w6.heap[G]? = w.heap[G]? := hg.block G h.lt (fun e => h.nb e.symm)
  have c0 : w6.cell? ⟨G, 0, none⟩ = some v := (World.cell?_of_block (a := ⟨G, 0, none⟩) hG).trans h.box
  have hn1 : v1.ownBlock ≠ some G := by
    rcases hat with e | e
    · rw [e]; exact h.nb
    · rw [e]; intro e2; simp only [Option.some.injEq] at e2; have := h.lt; omega
  refine ⟨c0, (World.frozen?_of_block (a := ⟨G, 0, none⟩) hG).trans h.fz, ?_⟩
  have hs : (w6.setCell ⟨G, 0, none⟩ v1).heap.size = w6.heap.size := by simp [World.setCell]
  refine ⟨World.ownsRow.kept (row := some G) ho ⟨rfl, rfl, rfl, by rw [hs]; exact Nat.le_refl _, fun k hk hr => Below.heap_setCell _ _ _ _ (fun e => hr (by rw [e]))⟩ (.inr hn1), World.cell?_setCell_same _ _ _ c0, ?_, hn1, ?_, h.ge, ?_, fun k hk => ?_, ?_⟩
  · rw [frozen?_setCell]; exact (World.frozen?_of_block (a := ⟨G, 0, none⟩) hG).trans h.fz
  · rw [hs]; exact Nat.lt_of_lt_of_le h.lt hg.size
  · refine h.yl.kept fun k hk => ?_
    obtain ⟨a1, a2, a3⟩ := h.yn k hk
    rw [Below.heap_setCell _ _ _ _ a1]
    exact hg.block k a3 (fun e => a2 e.symm)
  · obtain ⟨a1, a2, a3⟩ := h.yn k hk
    refine ⟨a1, ?_, by rw [hs]; exact Nat.lt_of_lt_of_le a3 hg.size⟩
    rcases hat with e | e
    · rw [e]; exact a2
    · rw [e]; intro e2; simp only [Option.some.injEq] at e2; omega
  · exact (h.bl.trans hb).setCell (p := ⟨G, 0, none⟩) h.ge _
theorem more_take {P Q : List Ch} {i : Nat} (hi : i < Q.length) : more P (Q.take (i + 1)) = if Q[i] ∈ P then more P (Q.take i) else more P (Q.take i) ++ [Q[i]] := by
  rw [List.take_succ_eq_append_getElem hi]
  unfold more
  rw [List.filter_append]
  by_cases h : Q[i] ∈ P
  · rw [if_pos h]; simp [h]
  · rw [if_neg h]; simp [h]
/-- None of the first i of Q clash with any of P. -/
def NoC (P Q : List Ch) (i : Nat) : Prop := ∀ q ∈ Q.take i, ∀ p ∈ P, ¬ (p ≠ q ∧ touch p q)
theorem noc0 (P Q : List Ch) : NoC P Q 0 := fun q hq => by simp at hq
theorem noc_next {P Q : List Ch} {i : Nat} (hi : i < Q.length) (h : NoC P Q i) (h2 : ∀ p ∈ P, ¬ (p ≠ Q[i] ∧ touch p Q[i])) : NoC P Q (i + 1) := by
  intro q hq p hp
  rw [List.take_succ_eq_append_getElem hi] at hq
  rcases List.mem_append.1 hq with hq | hq
  · exact h q hq p hp
  · rw [List.mem_singleton] at hq; subst hq; exact h2 p hp
theorem noc_all {P Q : List Ch} (h : NoC P Q Q.length) : ¬ clash P Q := by
  rintro ⟨q, hq, p, hp, hne⟩
  exact h q (by rw [List.take_length]; exact hq) p hp hne
/-- None of the first j of P clash with q. -/
def NoP (P : List Ch) (q : Ch) (j : Nat) : Prop := ∀ p ∈ P.take j, ¬ (p ≠ q ∧ touch p q)
theorem nop0 (P : List Ch) (q : Ch) : NoP P q 0 := fun p hp => by simp at hp
theorem nop_next {P : List Ch} {q : Ch} {j : Nat} (hj : j < P.length) (h : NoP P q j) (h2 : ¬ (P[j] ≠ q ∧ touch P[j] q)) : NoP P q (j + 1) := by
  intro p hp
  rw [List.take_succ_eq_append_getElem hj] at hp
  rcases List.mem_append.1 hp with hp | hp
  · exact h p hp
  · rw [List.mem_singleton] at hp; subst hp; exact h2
theorem nop_all {P : List Ch} {q : Ch} (h : NoP P q P.length) : ∀ p ∈ P, ¬ (p ≠ q ∧ touch p q) := fun p hp => h p (by rw [List.take_length]; exact hp)
theorem has_next {P : List Ch} {q : Ch} {j : Nat} (hj : j < P.length) : decide (q ∈ P.take (j + 1)) = (decide (q ∈ P.take j) || decide (P[j] = q)) := by
  rw [List.take_succ_eq_append_getElem hj, Bool.eq_iff_iff]
  simp only [decide_eq_true_eq, Bool.or_eq_true, List.mem_append, List.mem_singleton]
  exact ⟨fun h => h.elim .inl (fun e => .inr e.symm), fun h => h.elim .inl (fun e => .inr e.symm)⟩
/-- The round's list, once it is known whether the first text has it. -/
def grown (P Q : List Ch) (i : Nat) : List Ch := P ++ more P (Q.take i)
theorem grown_len (P Q : List Ch) (i : Nat) : (grown P Q i).length ≤ P.length + Q.length := by
  unfold grown more
  rw [List.length_append]
  have := List.length_filter_le (fun q => decide (q ∉ P)) (Q.take i)
  have : (Q.take i).length ≤ Q.length := by rw [List.length_take]; omega
  omega
theorem grown_has {P Q : List Ch} {i : Nat} (hi : i < Q.length) (h : Q[i] ∈ P) : grown P Q (i + 1) = grown P Q i := by
  unfold grown; rw [more_take hi, if_pos h]
theorem grown_not {P Q : List Ch} {i : Nat} (hi : i < Q.length) (h : Q[i] ∉ P) : grown P Q (i + 1) = grown P Q i ++ [Q[i]] := by
  unfold grown; rw [more_take hi, if_neg h, List.append_assoc]
theorem grown_all (P Q : List Ch) : grown P Q Q.length = P ++ more P Q := by
  unfold grown; rw [List.take_length]
end Go.Proofs.YtjicnffafhbmbaaDoor.Bo
