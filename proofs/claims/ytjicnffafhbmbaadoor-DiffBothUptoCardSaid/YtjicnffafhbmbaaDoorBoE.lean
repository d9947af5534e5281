/-
  PROVED HERE: the memory of a round of diff.Both, and its plain steps. Conditions: as each theorem states.
-/
import Derived.Test.YtjicnffafhbmbaaDoorBoC
import Derived.Test.YtjicnffafhbmbaaDoorMyO
import Derived.Test.YtjicnffafhbmbaaDoorBls
namespace Go.Proofs.YtjicnffafhbmbaaDoor.Bo
open Go.RowKit Go.Proofs.YtjicnffafhbmbaaDoor.My
theorem add_add (ad : Addr) (a b : Nat) : (ad.add a).add b = ad.add (a + b) := by
  unfold Addr.add
  by_cases h : a = 0 <;> by_cases h2 : b = 0 <;> simp [h, h2, Nat.add_assoc]
/-- A shown list without its first. -/
theorem Chv.tail {w : World} {ad : Addr} {n cap : Nat} {c : Ch} {l : List Ch} (h : Chv w (.slice (some ad) n cap) (c :: l)) : 1 ≤ cap ∧ l.length ≤ cap - 1 ∧ Chv w (.slice (some (ad.add 3)) l.length (cap - 1)) l := by
  obtain ⟨a', cap', e, hl, hc⟩ := h
  simp only [Value.slice.injEq] at e
  obtain ⟨rfl, rfl, rfl⟩ := e
  rw [List.length_cons] at hl
  refine ⟨by omega, by omega, some (ad.add 3), _, rfl, by omega, fun j hj => ?_⟩
  obtain ⟨ad', h1, h2, h3, h4⟩ := hc (j + 1) (by rw [List.length_cons]; omega)
  cases h1
  simp only [List.getElem_cons_succ] at h2 h3 h4
  refine ⟨_, rfl, ?_, ?_, ?_⟩
  · rw [add_add, show 3 + j * 3 = (j + 1) * 3 by omega]; exact h2
  · rw [add_add, show 3 + (j * 3 + 1) = (j + 1) * 3 + 1 by omega]; exact h3
  · rw [add_add, show 3 + (j * 3 + 2) = (j + 1) * 3 + 2 by omega]; exact h4
theorem add_zero0 (ad : Addr) : ad.add 0 = ad := by unfold Addr.add; simp
/-- The cells of the first, as a walk reckons their addresses. -/
theorem Chv.at0 {w : World} {v : Value} {c : Ch} {l : List Ch} (h : Chv w v (c :: l)) : ∃ ad cap, v = .slice (some ad) (l.length + 1) cap ∧ w.cell? ad = some (.int .i64 (c.fr : Nat)) ∧ w.cell? ⟨ad.block, ad.off + 1, none⟩ = some (.int .i64 (c.to : Nat)) ∧ w.cell? ⟨ad.block, ad.off + 2, none⟩ = some (.string c.text) := by
  obtain ⟨a, cap, rfl, -⟩ := id h
  obtain ⟨ad, rfl, h0, h1, h2⟩ := h.at_ 0 (by simp)
  rw [Nat.zero_mul, add_zero0] at h0 h1 h2
  exact ⟨ad, cap, rfl, h0, h1, h2⟩
theorem Chv.nil0 {w : World} {v : Value} (h : Chv w v []) : ∃ a cap, v = .slice a 0 cap := by
  obtain ⟨a, cap, e, _⟩ := h
  exact ⟨a, cap, e⟩
theorem chv_none {w : World} (a : Option Addr) : Chv w (.slice a 0 0) [] := ⟨a, 0, rfl, Nat.le_refl _, fun j hj => absurd hj (Nat.not_lt_zero j)⟩
def lenV : Value → Nat
  | .slice _ n _ => n
  | _ => 0
/-- What comes of what was written and of what is left. -/
def res (old : ByteArray) (O : ByteArray) (k : Nat) (m : Option (List Ch)) : Option ByteArray := m.map fun M => O ++ asm old k M
theorem res_cons (old O : ByteArray) (k : Nat) (c : Ch) (m : Option (List Ch)) : res old O k (m.map (c :: ·)) = res old (O ++ (old.extract k c.fr ++ c.text)) c.to m := by
  cases m with
  | none => rfl
  | some M => simp [res, asm, ByteArray.append_assoc]
theorem m_left (p : Ch) (P : List Ch) : merge (p :: P) [] = (merge P []).map (p :: ·) := by rw [merge]
theorem m_right (q : Ch) (Q : List Ch) : merge [] (q :: Q) = (merge [] Q).map (q :: ·) := by rw [merge]
theorem m_same (p : Ch) (P Q : List Ch) : merge (p :: P) (p :: Q) = (merge P Q).map (p :: ·) := by rw [merge, if_pos rfl]
theorem m_touch {p q : Ch} (P Q : List Ch) (e : p ≠ q) (h : touch p q) : merge (p :: P) (q :: Q) = none := by rw [merge, if_neg e, if_pos h]
theorem m_p {p q : Ch} (P Q : List Ch) (e : p ≠ q) (h : ¬ touch p q) (hl : p.fr < q.fr) : merge (p :: P) (q :: Q) = (merge P (q :: Q)).map (p :: ·) := by rw [merge, if_neg e, if_neg h, if_pos hl]
theorem m_q {p q : Ch} (P Q : List Ch) (e : p ≠ q) (h : ¬ touch p q) (hl : ¬ p.fr < q.fr) : merge (p :: P) (q :: Q) = (merge (p :: P) Q).map (q :: ·) := by rw [merge, if_neg e, if_neg h, if_neg hl]
theorem m_nil : merge [] [] = some [] := by rw [merge]
/-- A store outside of the builder. -/
theorem bl_set {w : World} {B b : Nat} {l : List UInt8} (h : Bld.Bl w B b l) (G j : Nat) (x : Value) (hne : G ≠ b) (hnb : Bld.Nb w b G) : Bld.Bl (w.setCell ⟨G, j, none⟩ x) B b l ∧ Bld.Nb (w.setCell ⟨G, j, none⟩ x) b G := by
  have hb : (w.setCell ⟨G, j, none⟩ x).heap[b]? = w.heap[b]? := Below.heap_setCell _ _ _ _ (Ne.symm hne)
  have k : ∀ p, Lib.BuilderAt 47 5 B b p (Lib.byteCells l) w → Lib.BuilderAt 47 5 B b p (Lib.byteCells l) (w.setCell ⟨G, j, none⟩ x) := by
    rintro p ⟨h1, v, h2, h3, h4⟩
    refine ⟨h1, v, hb.trans h2, h3.kept (row := some G) ⟨rfl, rfl, rfl, by simp [World.setCell], fun k hk hr => Below.heap_setCell _ _ _ _ (fun e => hr (by rw [e]))⟩ ?_, h4⟩
    have := hnb _ _ _ h2
    exact .inr this
  refine ⟨?_, fun p v T he => hnb p v T (hb.symm.trans he)⟩
  rcases h with h | h
  · exact .inl (k _ h)
  · exact .inr (k _ h)
/-- A shown list without its first, as the walk reslices. -/
theorem Chv.tl {w : World} {ad : Addr} {n cap : Nat} {c : Ch} {l : List Ch} (h : Chv w (.slice (some ad) (n + 1) cap) (c :: l)) (hn : l.length = n) : Chv w (.slice (if cap = 1 then some ad else some ⟨ad.block, ad.off + 3, none⟩) n (cap - 1)) l := by
  obtain ⟨h1, h2, h3⟩ := h.tail
  by_cases hc : cap = 1
  · subst hc
    obtain rfl : l = [] := List.eq_nil_of_length_eq_zero (by omega)
    rw [if_pos rfl]
    subst hn
    exact chv_none _
  · rw [if_neg hc, ← hn]
    have : ad.add 3 = ⟨ad.block, ad.off + 3, none⟩ := by have := add_next3 ad 0 2; rw [add_zero0] at this; exact this
    rw [← this]
    exact h3
/-- The memory of a round: the builder in the block behind w4, the round's change in the block G. -/
structure Bx (w4 : World) (G : Nat) (O : ByteArray) (x y : Nat) (t : ByteArray) (w : World) : Prop where
  bl : Bld.Bl w w4.heap.size w4.heap.size O.data.toList
  nb : Bld.Nb w w4.heap.size G
  ne : G ≠ w4.heap.size
  lt : G < w.heap.size
  ge : w4.heap.size ≤ G
  below : Below w4.heap.size w4 w
  c0 : w.cell? ⟨G, 0, none⟩ = some (.int .i64 (x : Nat))
  c1 : w.cell? ⟨G, 1, none⟩ = some (.int .i64 (y : Nat))
  c2 : w.cell? ⟨G, 2, none⟩ = some (.string t)
  fz : ∀ j, w.frozen? ⟨G, j, none⟩ = false
theorem Bx.new {w4 wr : World} {O : ByteArray} (hl : Bld.Bl wr w4.heap.size w4.heap.size O.data.toList) (hB : Below w4.heap.size w4 wr) : Bx w4 wr.heap.size O 0 0 ⟨#[]⟩ (wr.alloc (.cells #[.int .i64 0, .int .i64 0, .string ⟨#[]⟩] 49)) where
  bl := hl.keep ((Below.refl _ _).alloc (Nat.le_refl _) _)
  nb := hl.nb _
  ne := Ne.symm (Nat.ne_of_lt hl.lt)
  lt := by simp
  ge := hB.size
  below := hB.alloc hB.size _
  c0 := by simp [go_sem]
  c1 := by simp [go_sem]
  c2 := by simp [go_sem]
  fz := fun j => by simp [go_sem]
theorem Bx.drewN {w4 : World} {G : Nat} {O : ByteArray} {x y : Nat} {t : ByteArray} {w : World} (h : Bx w4 G O x y t w) (n : Nat) : Bx w4 G O x y t (w.drewN n) :=
  ⟨h.bl, h.nb, h.ne, h.lt, h.ge, below_drewN h.below n, h.c0, h.c1, h.c2, h.fz⟩
theorem Bx.put {w4 : World} {G : Nat} {O : ByteArray} {x y : Nat} {t : ByteArray} {w : World} (h : Bx w4 G O x y t w) (c : Ch) : Bx w4 G O c.fr c.to c.text (((w.setCell ⟨G, 0, none⟩ (.int .i64 (c.fr : Nat))).setCell ⟨G, 1, none⟩ (.int .i64 (c.to : Nat))).setCell ⟨G, 2, none⟩ (.string c.text)) := by
  obtain ⟨a1, a2⟩ := bl_set h.bl G 0 (.int .i64 (c.fr : Nat)) h.ne h.nb
  obtain ⟨b1, b2⟩ := bl_set a1 G 1 (.int .i64 (c.to : Nat)) h.ne a2
  obtain ⟨d1, d2⟩ := bl_set b1 G 2 (.string c.text) h.ne b2
  refine ⟨d1, d2, h.ne, by simpa [World.setCell] using h.lt, h.ge, ((h.below.setCell (p := ⟨G, 0, none⟩) h.ge _).setCell (p := ⟨G, 1, none⟩) h.ge _).setCell (p := ⟨G, 2, none⟩) h.ge _, ?_, ?_, ?_, fun j => ?_⟩
  · rw [World.cell?_setCell_other _ _ _ _ (by simp), World.cell?_setCell_other _ _ _ _ (by simp)]
    exact World.cell?_setCell_same _ _ _ h.c0
  · rw [World.cell?_setCell_other _ _ _ _ (by simp)]
    exact World.cell?_setCell_same _ _ _ (by rw [World.cell?_setCell_other _ _ _ _ (by simp)]; exact h.c1)
  · exact World.cell?_setCell_same _ _ _ (by rw [World.cell?_setCell_other _ _ _ _ (by simp), World.cell?_setCell_other _ _ _ _ (by simp)]; exact h.c2)
  · rw [frozen?_setCell, frozen?_setCell, frozen?_setCell]; exact h.fz j
theorem Bx.kept {w4 : World} {G : Nat} {O O2 : ByteArray} {x y : Nat} {t : ByteArray} {w w' : World} (h : Bx w4 G O x y t w) (_hl : Bld.Bl w' w4.heap.size w4.heap.size O2.data.toList) (hb : Below w4.heap.size w w') (hk : w'.heap[G]? = w.heap[G]?) : w'.cell? ⟨G, 1, none⟩ = some (.int .i64 (y : Nat)) ∧ Below w4.heap.size w4 w' :=
  ⟨(World.cell?_of_block (a := ⟨G, 1, none⟩) hk).trans h.c1, h.below.trans hb⟩
theorem dtl_app (a b : ByteArray) : (a ++ b).data.toList = a.data.toList ++ b.data.toList := by
  rw [ByteArray.data_append, Array.toList_append]
end Go.Proofs.YtjicnffafhbmbaaDoor.Bo
