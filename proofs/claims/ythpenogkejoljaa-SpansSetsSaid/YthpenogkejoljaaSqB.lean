/-
  PROVED HERE: Chosen at the law's three closures. Conditions: as each theorem states.
-/
import Derived.Test.YthpenogkejoljaaSpJ1
import Derived.Test.YthpenogkejoljaaSpJ2
import Derived.Test.YthpenogkejoljaaSpJ3
import Derived.Test.YthpenogkejoljaaSpP
import Derived.Test.YthpenogkejoljaaSpK
namespace Go.Proofs.Ythpenogkejoljaa.Sp
open Go.RowKit
def IsQ (Q : List Spn → Prop) (w : World) (e : Ending) (w' : World) : Prop := ∃ v o, e = .returned v ∧ Sps w' v o ∧ Q o ∧ o.length ≤ 1000 ∧ Below w.heap.size w w'
theorem lls2 {w : World} {g : Nat} {va vb : Value} {la lb : List Spn} (ha : Sps w va la) (hb : Sps w vb lb) (h0 : w.cell? ⟨g, 0, none⟩ = some va) (h1 : w.cell? ⟨g, 1, none⟩ = some vb) : Lls w (.slice (some ⟨g, 0, none⟩) 2 2) [la, lb] :=
  ⟨_, 2, rfl, fun j hj => by
    rcases (show j = 0 ∨ j = 1 by simp at hj; omega) with rfl | rfl
    · exact ⟨_, va, rfl, by rw [Addr.add_mid]; exact h0, ha⟩
    · exact ⟨_, vb, rfl, by rw [Addr.add_mid]; exact h1, hb⟩⟩
theorem mem2 {P : List Spn → Prop} {la lb : List Spn} (ha : P la) (hb : P lb) : ∀ l ∈ [la, lb], P l := fun l hl => by
  simp only [List.mem_cons, List.not_mem_nil, or_false] at hl
  rcases hl with rfl | rfl
  · exact ha
  · exact hb
section
variable {w : World} {g g1 g2 : Nat} {va vb : Value} {la lb : List Spn}
theorem cho1 (ha : Sps w va la) (hb : Sps w vb lb) (h0 : w.cell? ⟨g, 0, none⟩ = some va) (h1 : w.cell? ⟨g, 1, none⟩ = some vb) (c1 : w.cell? ⟨g1, 0, none⟩ = some va) (c2 : w.cell? ⟨g2, 0, none⟩ = some vb)
    (ba : ∀ x ∈ la, I64 x.1 ∧ I64 x.2) (bb : ∀ x ∈ lb, I64 x.1 ∧ I64 x.2) (na : la.length ≤ 200) (nb : lb.length ≤ 200) :
    Calls Try.prog 11 #[.func (.func 12) #[] #[.pointer (some ⟨g1, 0, none⟩), .pointer (some ⟨g2, 0, none⟩)], .slice (some ⟨g, 0, none⟩) 2 2] w (IsQ (fun o => Rt o ∧ ∀ a, Hs o a ↔ 0 ≤ a ∧ (Hs la a ∨ Hs lb a)) w) := by
  refine (chosen_any1 w _ _ _ [la, lb] (fun a => hsb la a || hsb lb a) (lls2 ha hb h0 h1) (mem2 ba bb) (by simp; omega) (by simp)
    (fun W' hW a => closure1_any W' g1 g2 va vb la lb a (keepCell hW c1) (keepCell hW c2) (ha.below hW) (hb.below hW) (by omega) (by omega))
    (fun e hu h0 he a j hj h1 h2 => ?_) (fun e he a h0 hF => ?_)).mono ?_
  · have ea := has_stretch hu h0 (he la (by simp)) hj h1 h2
    have eb := has_stretch hu h0 (he lb (by simp)) hj h1 h2
    simp only [Bool.or_eq_true, hsb_iff]
    rw [ea, eb]
  · simp only [Bool.or_eq_true, hsb_iff] at hF
    rcases hF with hF | hF
    · exact has_end (he la (by simp)) h0 hF
    · exact has_end (he lb (by simp)) h0 hF
  · rintro e w' ⟨v, o, q1, q2, q3, q4, q5, _, q7⟩
    exact ⟨v, o, q1, q2, ⟨q3, fun a => by rw [q4 a]; simp only [Bool.or_eq_true, hsb_iff]⟩, by simp at q5; omega, q7⟩
theorem cho2 (ha : Sps w va la) (hb : Sps w vb lb) (h0 : w.cell? ⟨g, 0, none⟩ = some va) (h1 : w.cell? ⟨g, 1, none⟩ = some vb) (c1 : w.cell? ⟨g1, 0, none⟩ = some va) (c2 : w.cell? ⟨g2, 0, none⟩ = some vb)
    (ba : ∀ x ∈ la, I64 x.1 ∧ I64 x.2) (bb : ∀ x ∈ lb, I64 x.1 ∧ I64 x.2) (na : la.length ≤ 200) (nb : lb.length ≤ 200) :
    Calls Try.prog 11 #[.func (.func 14) #[] #[.pointer (some ⟨g1, 0, none⟩), .pointer (some ⟨g2, 0, none⟩)], .slice (some ⟨g, 0, none⟩) 2 2] w (IsQ (fun o => Rt o ∧ ∀ a, Hs o a ↔ 0 ≤ a ∧ (Hs la a ∧ Hs lb a)) w) := by
  refine (chosen_any2 w _ _ _ [la, lb] (fun a => hsb la a && hsb lb a) (lls2 ha hb h0 h1) (mem2 ba bb) (by simp; omega) (by simp)
    (fun W' hW a => closure2_any W' g1 g2 va vb la lb a (keepCell hW c1) (keepCell hW c2) (ha.below hW) (hb.below hW) (by omega) (by omega))
    (fun e hu h0 he a j hj h1 h2 => ?_) (fun e he a h0 hF => ?_)).mono ?_
  · have ea := has_stretch hu h0 (he la (by simp)) hj h1 h2
    have eb := has_stretch hu h0 (he lb (by simp)) hj h1 h2
    simp only [Bool.and_eq_true, hsb_iff]
    rw [ea, eb]
  · simp only [Bool.and_eq_true, hsb_iff] at hF
    exact has_end (he la (by simp)) h0 hF.1
  · rintro e w' ⟨v, o, q1, q2, q3, q4, q5, _, q7⟩
    exact ⟨v, o, q1, q2, ⟨q3, fun a => by rw [q4 a]; simp only [Bool.and_eq_true, hsb_iff]⟩, by simp at q5; omega, q7⟩
theorem cho3 {n : Int} (ha : Sps w va la) (hb : Sps w vb [(0, n)]) (hi : I64 n) (h0 : w.cell? ⟨g, 0, none⟩ = some va) (h1 : w.cell? ⟨g, 1, none⟩ = some vb) (c1 : w.cell? ⟨g1, 0, none⟩ = some (.int .i64 n)) (c2 : w.cell? ⟨g2, 0, none⟩ = some va)
    (ba : ∀ x ∈ la, I64 x.1 ∧ I64 x.2) (na : la.length ≤ 200) :
    Calls Try.prog 11 #[.func (.func 15) #[] #[.pointer (some ⟨g1, 0, none⟩), .pointer (some ⟨g2, 0, none⟩)], .slice (some ⟨g, 0, none⟩) 2 2] w (IsQ (fun o => Rt o ∧ ∀ a, Hs o a ↔ 0 ≤ a ∧ (a < n ∧ ¬ Hs la a)) w) := by
  have bb : ∀ x ∈ [((0 : Int), n)], I64 x.1 ∧ I64 x.2 := fun x hx => by obtain rfl := List.mem_singleton.1 hx; exact ⟨by unfold I64; omega, hi⟩
  refine (chosen_any3 w _ _ _ [la, [(0, n)]] (fun a => decide (a < n) && !hsb la a) (lls2 ha hb h0 h1) (mem2 ba bb) (by simp; omega) (by simp)
    (fun W' hW a => closure3_any W' g1 g2 n va la a (keepCell hW c1) (keepCell hW c2) (ha.below hW) (by omega))
    (fun e hu h0 he a j hj h1 h2 => ?_) (fun e he a h0 hF => ?_)).mono ?_
  · have ea := has_stretch hu h0 (he la (by simp)) hj h1 h2
    have en := stretch_ends hu hj h1 h2 _ ((he [(0, n)] (by simp) (0, n) (by simp)).2)
    have e0 := h0 e[j] (List.getElem_mem _)
    simp only [Bool.and_eq_true, decide_eq_true_eq, Bool.not_eq_true', ← Bool.not_eq_true, hsb_iff]
    rw [ea]
    have : a < n ↔ e[j] < n := by
      simp only at en
      omega
    rw [this]
  · simp only [Bool.and_eq_true, decide_eq_true_eq] at hF
    exact ⟨_, (he [(0, n)] (by simp) (0, n) (by simp)).2, by simp only; omega⟩
  · rintro e w' ⟨v, o, q1, q2, q3, q4, q5, _, q7⟩
    exact ⟨v, o, q1, q2, ⟨q3, fun a => by rw [q4 a]; simp only [Bool.and_eq_true, decide_eq_true_eq, Bool.not_eq_true', ← Bool.not_eq_true, hsb_iff]⟩, by simp at q5; omega, q7⟩
end
end Go.Proofs.Ythpenogkejoljaa.Sp
