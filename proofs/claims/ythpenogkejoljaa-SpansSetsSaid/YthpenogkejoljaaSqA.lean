/-
  PROVED HERE: the program's spans.Or, and Of, And, Not, SpansOf by what they are. Conditions: as each theorem states.
-/
import Derived.Test.YthpenogkejoljaaSpY
import Derived.Test.YthpenogkejoljaaSpV
namespace Go.Proofs.Ythpenogkejoljaa.Sp
open Go.RowKit
/-- A row of spans comes, which is o; what was is as it was. -/
def IsV (o : List Spn) (w : World) (e : Ending) (w' : World) : Prop := ∃ v, e = .returned v ∧ Sps w' v o ∧ Below w.heap.size w w'
def Same2 (a b o : List Spn) : Prop := Rt o ∧ ∀ t, Hs o t ↔ 0 ≤ t ∧ (Hs a t ∧ Hs b t)
def SameN (a : List Spn) (n : Int) (o : List Spn) : Prop := Rt o ∧ ∀ t, Hs o t ↔ 0 ≤ t ∧ (t < n ∧ ¬ Hs a t)
theorem of_is (w : World) (v : Value) (l o : List Spn) (h : Sps w v l) (hb : ∀ x ∈ l, I64 x.1 ∧ I64 x.2) (hn : l.length ≤ 10000) (ho : Same l o) : Calls Try.prog 19 #[v] w (IsV o w) :=
  (of_any w v l h hb hn).mono fun e w' ⟨v', r, h1, h2, h3, _, _, h6⟩ => ⟨v', h1, (ho.one h3).symm ▸ h2, h6⟩
theorem spansOf_is (w : World) (v : Value) (l o : List Spn) (h : Sps w v l) (hb : ∀ x ∈ l, I64 x.1 ∧ I64 x.2) (hn : l.length ≤ 500) (ho : Same l o) : Calls Try.prog 6 #[v] w (IsV o w) :=
  (spansOf_any w v l h hb hn).mono fun e w' ⟨v', r, h1, h2, h3, _, _, h6⟩ => ⟨v', h1, (ho.one h3).symm ▸ h2, h6⟩
theorem and_is (w : World) (va vb : Value) (la lb a b o : List Spn) (h : Sps w va la) (h' : Sps w vb lb) (hb : ∀ x ∈ la, I64 x.1 ∧ I64 x.2) (hb' : ∀ x ∈ lb, I64 x.1 ∧ I64 x.2) (hn : la.length ≤ 10000) (hn' : lb.length ≤ 10000) (hr : Same la a) (hr' : Same lb b) (ho : Same2 la lb o) :
    Calls Try.prog 21 #[va, vb] w (IsV o w) :=
  (and_any w va vb la lb a b h h' hb hb' hn hn' hr hr').mono fun e w' ⟨v', r, h1, h2, h3, h4, _, h6⟩ => ⟨v', h1, (right_unique o r ho.1 h3 (fun t => by
    rw [ho.2 t, h4 t, hr.2 t, hr'.2 t]
    constructor
    · rintro ⟨x, y, z⟩; exact ⟨⟨x, y⟩, x, z⟩
    · rintro ⟨⟨x, y⟩, _, z⟩; exact ⟨x, y, z⟩)).symm ▸ h2, h6⟩
theorem not_is (w : World) (v : Value) (l r o : List Spn) (n : Int) (h : Sps w v l) (hb : ∀ x ∈ l, I64 x.1 ∧ I64 x.2) (hn : l.length ≤ 10000) (hr : Same l r) (ho : SameN l n o) : Calls Try.prog 22 #[v, .int .i64 n] w (IsV o w) :=
  (not_any w v l r n h hb hn hr).mono fun e w' ⟨v', r', h1, h2, h3, h4, _, h6⟩ => ⟨v', h1, (right_unique o r' ho.1 h3 (fun t => by
    rw [ho.2 t, h4 t, hr.2 t]
    constructor
    · rintro ⟨x, y, z⟩; exact ⟨x, y, fun ⟨_, q⟩ => z q⟩
    · rintro ⟨x, y, z⟩; exact ⟨x, y, fun q => z ⟨x, q⟩⟩)).symm ▸ h2, h6⟩
set_option maxRecDepth 100000 in
set_option maxHeartbeats 2000000 in
theorem or_is (w : World) (va vb : Value) (la lb o : List Spn) (h : Sps w va la) (h' : Sps w vb lb) (hb : ∀ x ∈ la, I64 x.1 ∧ I64 x.2) (hb' : ∀ x ∈ lb, I64 x.1 ∧ I64 x.2) (hn : la.length ≤ 400) (hn' : lb.length ≤ 400) (ho : Same (la ++ lb) o) :
    Calls Try.prog 20 #[va, vb] w (IsV o w) := by
  have hB : Below w.heap.size w (w.alloc (.cells #[va, vb] 22)) := (Below.refl _ _).alloc (Nat.le_refl _) _
  have C := Lib.hid (concat_any (w.alloc (.cells #[va, vb] 22)) w.heap.size va vb la lb (h.below hB) (h'.below hB) (by rw [World.cell?_alloc_new]; rfl) (by rw [World.cell?_alloc_new]; rfl) hn hn')
  have D := Lib.hid (fun w1 v (hS : Sps w1 v (la ++ lb)) => of_is w1 v (la ++ lb) o hS (fun x hx => (List.mem_append.1 hx).elim (hb x) (hb' x)) (by rw [List.length_append]; omega) ho)
  have HB := Lib.hid hB
  generalize la ++ lb = m at *
  obtain ⟨A1, C1, rfl, -⟩ := h
  obtain ⟨A2, C2, rfl, -⟩ := h'
  clear hB hb hb'
  clear ho
  go_enter Try.func20, Try.ntmps20
  go_wp2_with fail
  refine C.out.mono ?_; rintro e w1 ⟨v1, rfl, h1, h2⟩
  have E := Lib.hid (D.out w1 v1 h1.sps)
  have B1 := Lib.hid (HB.out.trans (h2.mono HB.out.size))
  obtain ⟨_, _, rfl⟩ := h1.len
  clear h1 h2 C D
  go_wp2_with fail
  refine E.out.mono ?_; rintro e w2 ⟨v2, rfl, h1, h2⟩
  have F := Lib.hid (And.intro h1 (B1.out.trans (h2.mono B1.out.size)))
  clear h1 h2 E
  go_wp2_with fail
  go_ret
  exact ⟨_, rfl, F.out.1, F.out.2⟩
end Go.Proofs.Ythpenogkejoljaa.Sp
