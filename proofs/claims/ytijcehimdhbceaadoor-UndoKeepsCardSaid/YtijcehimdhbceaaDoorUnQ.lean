/-
  PROVED HERE: both trees side by side, and that each operation keeps them alike. Conditions: as each theorem states.
-/
import Derived.Test.YtijcehimdhbceaaDoorUnO
import Derived.Test.YtijcehimdhbceaaDoorUnP
namespace Go.Proofs.YtijcehimdhbceaaDoor.Un
open Go.RowKit
/-- The program's tree and the document's hold the same. -/
structure Both (W w : World) (g g2 b cap : Nat) (l : List St) (b2 cap2 d cap3 : Nat) (up tm : List Int) (now t : Nat) : Prop where
  pt : PT w g b cap l now
  dt : DT w g2 b2 cap2 d cap3 up tm now t
  what : l.map St.what = (List.range l.length).map (fun k : Nat => (k : Int))
  ups : l.map St.up = up
  inv : Inv up (l.map St.down) (tf tm) now t
  tml : tm.length = up.length
  tms : Tms tm
  a1 : b ≠ g2
  a2 : b ≠ b2
  a3 : b ≠ d
  a4 : g ≠ g2
  a5 : g ≠ b2
  a6 : g ≠ d
  lo : W.heap.size ≤ g ∧ W.heap.size ≤ g2 ∧ W.heap.size ≤ b ∧ W.heap.size ≤ b2 ∧ W.heap.size ≤ d
  bw : Below W.heap.size W w
def BothE (W w : World) (g g2 k : Nat) : Prop := ∃ b cap l b2 cap2 d cap3 up tm now t, Both W w g g2 b cap l b2 cap2 d cap3 up tm now t ∧ up.length ≤ 200 ∧ t ≤ k
theorem PT.low {w : World} {g b cap now : Nat} {l : List St} (h : PT w g b cap l now) (hl : 0 < l.length) : g < w.heap.size ∧ b < w.heap.size :=
  ⟨World.block_lt_of_cell? w _ h.c0, World.block_lt_of_cell? w _ (h.at_ 0 hl).1⟩
theorem DT.low {w : World} {g b cap d cap' now t : Nat} {up tm : List Int} (h : DT w g b cap d cap' up tm now t) : g < w.heap.size ∧ b < w.heap.size ∧ d < w.heap.size :=
  ⟨World.block_lt_of_cell? w _ h.c0, (h.ow1.lt b rfl).2, (h.ow2.lt d rfl).2⟩
section
variable {W w : World} {g g2 b cap b2 cap2 d cap3 now t k : Nat} {l : List St} {up tm : List Int}
theorem Both.ll (h : Both W w g g2 b cap l b2 cap2 d cap3 up tm now t) : up.length = l.length := by rw [← h.ups]; simp
theorem Both.below {w1 : World} (h : Both W w g g2 b cap l b2 cap2 d cap3 up tm now t) (hb : Below w.heap.size w w1) : Both W w1 g g2 b cap l b2 cap2 d cap3 up tm now t :=
  ⟨h.pt.keeps (S := fun _ => False) (Keeps.below hb) (fun x => x) (fun x => x), h.dt.below hb, h.what, h.ups, h.inv, h.tml, h.tms, h.a1, h.a2, h.a3, h.a4, h.a5, h.a6, h.lo, h.bw.trans (hb.mono h.bw.size)⟩
/-- The document's tree, where the program's alone has turned. -/
theorem Both.dtK {w1 : World} (h : Both W w g g2 b cap l b2 cap2 d cap3 up tm now t) (hk : Keeps (fun k => k = g ∨ k = b) w w1) : DT w1 g2 b2 cap2 d cap3 up tm now t :=
  h.dt.keeps hk (fun e => e.elim (fun e => h.a4 e.symm) (fun e => h.a1 e.symm)) (fun e => e.elim (fun e => h.a5 e.symm) (fun e => h.a2 e.symm)) (fun e => e.elim (fun e => h.a6 e.symm) (fun e => h.a3 e.symm))
theorem tms_mark (h : Tms tm) (n : Nat) (x : Int) (hx : 0 ≤ x) : Tms (setAll tm (way up n).reverse x) := by
  intro y hy
  obtain ⟨i, hi, rfl⟩ := List.getElem_of_mem hy
  have key : ∀ (l : List Int) (tm : List Int), Tms tm → Tms (setAll tm l x) := by
    intro l
    induction l with
    | nil => intro tm h; exact h
    | cons k l ih =>
      intro tm h
      show Tms (setAll (tm.set k.toNat x) l x)
      refine ih _ (fun z hz => ?_)
      rcases List.mem_or_eq_of_mem_set hz with hz | rfl
      · exact h z hz
      · exact hx
  exact key _ _ h _ hy
/-- Both have turned as they should: the document's by a mark. -/
theorem both_mark {w1 w2 : World} {l' : List St} {n m cap' cap2' cap3' : Nat} (h : Both W w g g2 b cap l b2 cap2 d cap3 up tm now t)
    (p1 : PT w1 g b cap' l' m) (k1 : Keeps (fun k => k = g ∨ k = b) w w1) (p2 : DT w2 g2 b2 cap2' d cap3' up (setAll tm (way up n).reverse ((t + 1 : Nat) : Int)) m (t + 1)) (k2 : Keeps (fun k => k = g2 ∨ k = d) w1 w2)
    (hw : l'.map St.what = l.map St.what) (hu : l'.map St.up = up) (hn : n < up.length) (hi : Inv up (l'.map St.down) (marked up (tf tm) (t + 1) n) m (t + 1)) :
    Both W w2 g g2 b cap' l' b2 cap2' d cap3' up (setAll tm (way up n).reverse ((t + 1 : Nat) : Int)) m (t + 1) := by
  have hl : l'.length = l.length := by have := congrArg List.length hw; simpa using this
  refine ⟨p1.keeps k2 (fun e => e.elim h.a4 h.a6) (fun e => e.elim h.a1 h.a3), p2, by rw [hw, h.what, hl], hu, ?_, by rw [setAll_len]; exact h.tml, tms_mark h.tms _ _ (by omega), h.a1, h.a2, h.a3, h.a4, h.a5, h.a6, h.lo, ?_⟩
  · rw [tf_mark up tm (t + 1) n h.inv.ups (by rw [h.tml]; exact hn)]
    exact hi
  · have q1 := k1.toBelow W.heap.size h.bw.size (fun k hk => hk.elim (fun e => by rw [e]; exact h.lo.1) (fun e => by rw [e]; exact h.lo.2.2.1))
    have q2 := k2.toBelow W.heap.size (Nat.le_trans h.bw.size k1.size) (fun k hk => hk.elim (fun e => by rw [e]; exact h.lo.2.1) (fun e => by rw [e]; exact h.lo.2.2.2.2))
    exact (h.bw.trans q1).trans q2
theorem both_same {w1 w2 : World} {m cap' cap2' cap3' : Nat} (h : Both W w g g2 b cap l b2 cap2 d cap3 up tm now t)
    (p1 : PT w1 g b cap' l m) (k1 : Keeps (fun k => k = g ∨ k = b) w w1) (p2 : DT w2 g2 b2 cap2' d cap3' up tm m t) (k2 : Keeps (fun k => k = g2 ∨ k = d) w1 w2) (hi : Inv up (l.map St.down) (tf tm) m t) :
    Both W w2 g g2 b cap' l b2 cap2' d cap3' up tm m t := by
  refine ⟨p1.keeps k2 (fun e => e.elim h.a4 h.a6) (fun e => e.elim h.a1 h.a3), p2, h.what, h.ups, hi, h.tml, h.tms, h.a1, h.a2, h.a3, h.a4, h.a5, h.a6, h.lo, ?_⟩
  have q1 := k1.toBelow W.heap.size h.bw.size (fun k hk => hk.elim (fun e => by rw [e]; exact h.lo.1) (fun e => by rw [e]; exact h.lo.2.2.1))
  have q2 := k2.toBelow W.heap.size (Nat.le_trans h.bw.size k1.size) (fun k hk => hk.elim (fun e => by rw [e]; exact h.lo.2.1) (fun e => by rw [e]; exact h.lo.2.2.2.2))
  exact (h.bw.trans q1).trans q2
theorem tf_zero (tm : List Int) : tf (tm ++ [0]) = tf tm := by
  funext i
  unfold tf
  by_cases hi : i < tm.length
  · rw [List.getD_eq_getElem?_getD, List.getElem?_append_left hi, ← List.getD_eq_getElem?_getD]
  · rw [List.getD_eq_getElem?_getD, List.getD_eq_getElem?_getD, List.getElem?_eq_none (l := tm) (by omega)]
    by_cases he : i = tm.length
    · subst he; simp
    · rw [List.getElem?_eq_none (by simp; omega)]
theorem both_add {w1 w2 : World} {e1 e2 : Ending} (h : Both W w g g2 b cap l b2 cap2 d cap3 up tm now t) (h1 : AddP g b l now (l.length : Int) w e1 w1) (h2 : AddDP g2 b2 d w1 up tm now t e2 w2) (hl : up.length < 200) (ht : t ≤ k) :
    e1 = .returned .nilIface ∧ e2 = .returned (.int .i64 0) ∧ BothE W w2 g g2 (k + 1) := by
  obtain ⟨b', cap', l', rfl, p1, hw, hu, hd, k1, hb'⟩ := h1
  obtain ⟨b2', cp1, d', cp2, rfl, p2, k2, hb2', hd'⟩ := h2
  refine ⟨rfl, rfl, b', cap', l', b2', cp1, d', cp2, up ++ [(now : Int)], setAll (tm ++ [0]) (way (up ++ [(now : Int)]) up.length).reverse ((t + 1 : Nat) : Int), up.length, t + 1, ?_, by rw [List.length_append, List.length_singleton]; omega, by omega⟩
  have hll := h.ll
  have hlen : l'.length = l.length + 1 := by have := congrArg List.length hw; simpa using this
  have g2s : b' < w1.heap.size := (p1.low (by omega)).2
  have gs := p1.low (by omega)
  have lo := h.dt.low
  have s1 := k1.size
  have lw := h.lo
  have n1 : b' ≠ g2 ∧ b' ≠ b2 ∧ b' ≠ d := by
    rcases hb' with e | e
    · rw [e]; exact ⟨h.a1, h.a2, h.a3⟩
    · omega
  have a4 := h.a4
  have a5 := h.a5
  have a6 := h.a6
  have K : ∀ {x : Nat}, x ≠ g2 → x ≠ b2 → x ≠ d → ¬ (x = g2 ∨ x = b2 ∨ x = d) := fun q1 q2 q3 e => e.elim q1 (fun e => e.elim q2 q3)
  refine ⟨?_, p2, ?_, by rw [hu, h.ups], ?_, ?_, ?_, n1.1, ?_, ?_, a4, ?_, ?_, ?_, ?_⟩
  · have := p1.keeps k2 (K a4 a5 a6) (K n1.1 n1.2.1 n1.2.2)
    rw [hll]
    exact this
  · rw [hw, h.what, hlen, List.range_succ]; simp
  · rw [hd, ← hll, tf_mark _ _ (t + 1) up.length (ups_app h.inv.ups now (by omega) (by have := h.inv.inb; omega)) (by simp [h.tml]), tf_zero]
    exact add_inv h.inv
  · rw [setAll_len]; simp [h.tml]
  · refine tms_mark (fun x hx => ?_) _ _ (by omega)
    rw [List.mem_append, List.mem_singleton] at hx
    rcases hx with hx | rfl
    · exact h.tms x hx
    · exact Int.le_refl _
  · rcases hb2' with e | e
    · rw [e]; exact n1.2.1
    · omega
  · rcases hd' with e | e
    · rw [e]; exact n1.2.2
    · omega
  · rcases hb2' with e | e
    · rw [e]; exact a5
    · omega
  · rcases hd' with e | e
    · rw [e]; exact a6
    · omega
  · have := h.bw.size
    refine ⟨lw.1, lw.2.1, ?_, ?_, ?_⟩
    · rcases hb' with e | e <;> omega
    · rcases hb2' with e | e <;> omega
    · rcases hd' with e | e <;> omega
  · have q1 := k1.toBelow W.heap.size h.bw.size (fun k hk => by omega)
    have q2 := k2.toBelow W.heap.size (Nat.le_trans h.bw.size k1.size) (fun k hk => by omega)
    exact (h.bw.trans q1).trans q2
theorem both_undo {w1 w2 : World} {e1 e2 : Ending} {p : Nat} (h : Both W w g g2 b cap l b2 cap2 d cap3 up tm now t) (hl : up.length ≤ 200) (hp : up.getD now (-1) = p) (hpl : p < l.length)
    (h1 : UnP g b cap w .nilIface (l.set p { l[p] with down := now }) p e1 w1) (h2 : DocP g2 d w1 b2 cap2 cap3 0 up (setAll tm (way up now).reverse ((t + 1 : Nat) : Int)) p (t + 1) e2 w2) (ht : t ≤ k) :
    BothE W w2 g g2 (k + 1) := by
  obtain ⟨_, p1, k1⟩ := h1
  obtain ⟨_, p2, k2⟩ := h2
  have hm := maps_set l p hpl now
  refine ⟨_, _, _, _, _, _, _, _, _, _, _, both_mark h p1 k1 p2 k2 hm.1 (by rw [hm.2.1]; exact h.ups) h.inv.inb ?_, hl, by omega⟩
  rw [hm.2.2]
  exact undo_inv h.inv p hp
theorem both_go {w1 w2 : World} {e1 e2 : Ending} {n : Nat} (h : Both W w g g2 b cap l b2 cap2 d cap3 up tm now t) (hl : up.length ≤ 200) (hn : n < up.length)
    (h1 : GoP g b cap l up n w e1 w1) (h2 : DocP g2 d w1 b2 cap2 cap3 0 up (setAll tm (way up n).reverse ((t + 1 : Nat) : Int)) n (t + 1) e2 w2) (ht : t ≤ k) :
    BothE W w2 g g2 (k + 1) := by
  obtain ⟨j, D, _, p1, hj, he, hG, k1⟩ := h1
  obtain ⟨_, p2, k2⟩ := h2
  have hDl : D.length = l.length := by rw [hG.len]; simp
  have hm : ∀ (f : St → Int), (∀ e x, f { e with down := x } = f e) → (withD l D).map f = l.map f := fun f hf => by
    apply List.ext_getElem
    · simp [withD_len l D hDl]
    · intro i q1 q2
      rw [List.getElem_map, List.getElem_map, withD_at l D i (by simpa using q1) (by simpa using q2) (by rw [List.length_map] at q2; omega)]
      exact hf _ _
  have hd : (withD l D).map St.down = D := by
    apply List.ext_getElem
    · simp [withD_len l D hDl, hDl]
    · intro i q1 q2
      rw [List.getElem_map, withD_at l D i (by simpa using q1) (by omega) q2]
  refine ⟨_, _, _, _, _, _, _, _, _, _, _, both_mark h p1 k1 p2 k2 (hm St.what (fun _ _ => rfl)) (by rw [hm St.up (fun _ _ => rfl)]; exact h.ups) hn ?_, hl, by omega⟩
  rw [hd]
  exact go_inv h.inv hn hj he hG
theorem both_no {w1 w2 : World} {e1 e2 : Ending} {v : Value} {x : Int} (h : Both W w g g2 b cap l b2 cap2 d cap3 up tm now t) (hl : up.length ≤ 200)
    (h1 : UnP g b cap w v l now e1 w1) (h2 : DocP g2 d w1 b2 cap2 cap3 x up tm now t e2 w2) (ht : t ≤ k) : BothE W w2 g g2 (k + 1) := by
  obtain ⟨_, p1, k1⟩ := h1
  obtain ⟨_, p2, k2⟩ := h2
  exact ⟨_, _, _, _, _, _, _, _, _, _, _, both_same h p1 k1 p2 k2 h.inv, hl, by omega⟩
theorem both_redo {w1 w2 : World} {e2 : Ending} (h : Both W w g g2 b cap l b2 cap2 d cap3 up tm now t) (hl : up.length ≤ 200) (hnl : now < l.length)
    (h2 : RedoP g2 d w1 b2 cap2 cap3 up tm now t e2 w2) (ht : t ≤ k) :
    ((l[now].down < 0 ∧ PT w1 g b cap l now ∧ Keeps (fun k => k = g ∨ k = b) w w1) → e2 = .returned (.int .i64 8) ∧ BothE W w2 g g2 (k + 1)) ∧
    ∀ p : Nat, (l[now].down = p ∧ PT w1 g b cap l p ∧ Keeps (fun k => k = g ∨ k = b) w w1) → e2 = .returned (.int .i64 0) ∧ BothE W w2 g g2 (k + 1) := by
  obtain ⟨c, hc, hcase, k2⟩ := h2
  have hb := h.inv.best now (by simp; exact hnl)
  rw [List.getElem_map] at hb
  have e := best_one hc hb
  refine ⟨fun ⟨q1, p1, k1⟩ => ?_, fun p ⟨q1, p1, k1⟩ => ?_⟩
  · rcases hcase with ⟨_, e2, p2⟩ | ⟨n, e3, _⟩
    · exact ⟨e2, _, _, _, _, _, _, _, _, _, _, _, both_same h p1 k1 p2 k2 h.inv, hl, by omega⟩
    · omega
  · rcases hcase with ⟨e3, _⟩ | ⟨n, e3, e2, p2⟩
    · omega
    · obtain rfl : n = p := by omega
      refine ⟨e2, _, _, _, _, _, _, _, _, _, _, _, both_same h p1 k1 p2 k2 (redo_inv h.inv n ?_), hl, by omega⟩
      rw [gdl _ _ _ (by simp; exact hnl), List.getElem_map]
      exact q1
end
end Go.Proofs.YtijcehimdhbceaaDoor.Un
