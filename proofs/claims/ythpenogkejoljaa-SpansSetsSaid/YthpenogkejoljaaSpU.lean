/-
  PROVED HERE: the places of two rows, in plain Lean. Conditions: as each theorem states.
-/
import Derived.Test.YthpenogkejoljaaSpS
namespace Go.Proofs.Ythpenogkejoljaa.Sp
/-- t lies in a pair of spans that is done. -/
def Pr (a b : List Spn) (i j : Nat) (t : Int) : Prop := ∃ p q, ∃ hp : p < a.length, ∃ hq : q < b.length, (p < i ∨ q < j) ∧ (a[p].1 ≤ t ∧ t < a[p].2) ∧ (b[q].1 ≤ t ∧ t < b[q].2)
/-- What And holds. -/
def An (a b : List Spn) (i j : Nat) (o : List Spn) : Prop := Rt o ∧ (∀ t, Hs o t ↔ Pr a b i j t) ∧ ∀ y ∈ o, (∀ h : i < a.length, y.2 < a[i].1) ∨ (∀ h : j < b.length, y.2 < b[j].1)
theorem an_zero (a b : List Spn) : An a b 0 0 [] := ⟨rt_nil, fun t => ⟨fun h => absurd h (hs_nil t), fun ⟨p, q, _, _, h, _⟩ => absurd h (by omega)⟩, fun y hy => (by cases hy)⟩
def meet (x y : Spn) : Spn := (max x.1 y.1, min x.2 y.2)
theorem an_rt {a b : List Spn} {i j : Nat} {o : List Spn} (ha : Rt a) (h : An a b i j o) (hi : i < a.length) (hj : j < b.length) (hx : (meet a[i] b[j]).1 < (meet a[i] b[j]).2) : Rt (o ++ [meet a[i] b[j]]) := by
  obtain ⟨a1, _, a3⟩ := h
  have h0 := ha.1 _ (List.getElem_mem hi)
  refine a1.snoc (by unfold meet; simp only; omega) hx (fun y hy => ?_)
  unfold meet
  rcases a3 y hy with h | h
  · have := h hi; simp only; omega
  · have := h hj; simp only; omega
theorem has_add {o : List Spn} {x : Spn} (t : Int) : Hs (if x.1 < x.2 then o ++ [x] else o) t ↔ Hs o t ∨ (x.1 ≤ t ∧ t < x.2) := by
  split
  · rw [hs_append, hs_cons]
    have := hs_nil t
    constructor
    · rintro (h | h | h)
      · exact .inl h
      · exact .inr h
      · exact absurd h this
    · rintro (h | h)
      · exact .inl h
      · exact .inr (.inl h)
  · constructor
    · exact .inl
    · rintro (h | h)
      · exact h
      · omega
theorem an_i {a b : List Spn} {i j : Nat} {o : List Spn} (ha : Rt a) (hb : Rt b) (h : An a b i j o) (hi : i < a.length) (hj : j < b.length) (hc : a[i].2 < b[j].2) : An a b (i + 1) j (if (meet a[i] b[j]).1 < (meet a[i] b[j]).2 then o ++ [meet a[i] b[j]] else o) := by
  have hr := an_rt ha h hi hj
  obtain ⟨a1, a2, a3⟩ := h
  have hnx : ∀ h : i + 1 < a.length, a[i].2 < a[i + 1].1 := fun h => ha.order (show i < i + 1 by omega) h
  have hx := ha.1 _ (List.getElem_mem hi)
  refine ⟨?_, fun t => ?_, fun y hy => ?_⟩
  · split
    · next c => exact hr c
    · exact a1
  · rw [has_add, a2 t]
    constructor
    · rintro (⟨p, q, hp, hq, e, e1, e2⟩ | e)
      · exact ⟨p, q, hp, hq, by omega, e1, e2⟩
      · unfold meet at e
        simp only at e
        exact ⟨i, j, hi, hj, .inl (by omega), ⟨by omega, by omega⟩, ⟨by omega, by omega⟩⟩
    · rintro ⟨p, q, hp, hq, e, e1, e2⟩
      by_cases c : p < i ∨ q < j
      · exact .inl ⟨p, q, hp, hq, c, e1, e2⟩
      · have hpi : p = i := by omega
        subst hpi
        by_cases c2 : q = j
        · subst c2
          refine .inr ?_
          unfold meet
          simp only
          omega
        · have := hb.order (show j < q by omega) hq
          omega
  · have old : ∀ y ∈ o, (∀ h : i + 1 < a.length, y.2 < a[i + 1].1) ∨ (∀ h : j < b.length, y.2 < b[j].1) := fun y hy => by
      rcases a3 y hy with e | e
      · exact .inl fun h => by have := e hi; have := hnx h; omega
      · exact .inr e
    split at hy
    · rcases List.mem_append.1 hy with hy | hy
      · exact old y hy
      · obtain rfl := List.mem_singleton.1 hy
        exact .inl fun h => by have := hnx h; unfold meet; simp only; omega
    · exact old y hy
theorem an_j {a b : List Spn} {i j : Nat} {o : List Spn} (ha : Rt a) (hb : Rt b) (h : An a b i j o) (hi : i < a.length) (hj : j < b.length) (hc : ¬ a[i].2 < b[j].2) : An a b i (j + 1) (if (meet a[i] b[j]).1 < (meet a[i] b[j]).2 then o ++ [meet a[i] b[j]] else o) := by
  have hr := an_rt ha h hi hj
  obtain ⟨a1, a2, a3⟩ := h
  have hnx : ∀ h : j + 1 < b.length, b[j].2 < b[j + 1].1 := fun h => hb.order (show j < j + 1 by omega) h
  have hx := hb.1 _ (List.getElem_mem hj)
  refine ⟨?_, fun t => ?_, fun y hy => ?_⟩
  · split
    · next c => exact hr c
    · exact a1
  · rw [has_add, a2 t]
    constructor
    · rintro (⟨p, q, hp, hq, e, e1, e2⟩ | e)
      · exact ⟨p, q, hp, hq, by omega, e1, e2⟩
      · unfold meet at e
        simp only at e
        exact ⟨i, j, hi, hj, .inr (by omega), ⟨by omega, by omega⟩, ⟨by omega, by omega⟩⟩
    · rintro ⟨p, q, hp, hq, e, e1, e2⟩
      by_cases c : p < i ∨ q < j
      · exact .inl ⟨p, q, hp, hq, c, e1, e2⟩
      · have hqj : q = j := by omega
        subst hqj
        by_cases c2 : p = i
        · subst c2
          refine .inr ?_
          unfold meet
          simp only
          omega
        · have := ha.order (show i < p by omega) hp
          omega
  · have old : ∀ y ∈ o, (∀ h : i < a.length, y.2 < a[i].1) ∨ (∀ h : j + 1 < b.length, y.2 < b[j + 1].1) := fun y hy => by
      rcases a3 y hy with e | e
      · exact .inl e
      · exact .inr fun h => by have := e hj; have := hnx h; omega
    split at hy
    · rcases List.mem_append.1 hy with hy | hy
      · exact old y hy
      · obtain rfl := List.mem_singleton.1 hy
        exact .inr fun h => by have := hnx h; unfold meet; simp only; omega
    · exact old y hy
theorem an_done {a b : List Spn} {i j : Nat} {o : List Spn} (h : An a b i j o) (hd : a.length ≤ i ∨ b.length ≤ j) : Rt o ∧ ∀ t, Hs o t ↔ Hs a t ∧ Hs b t := by
  obtain ⟨a1, a2, _⟩ := h
  refine ⟨a1, fun t => ?_⟩
  rw [a2 t]
  constructor
  · rintro ⟨p, q, hp, hq, _, e1, e2⟩
    exact ⟨⟨_, List.getElem_mem hp, e1⟩, ⟨_, List.getElem_mem hq, e2⟩⟩
  · rintro ⟨⟨x, hx, e1⟩, ⟨y, hy, e2⟩⟩
    obtain ⟨p, hp, rfl⟩ := List.getElem_of_mem hx
    obtain ⟨q, hq, rfl⟩ := List.getElem_of_mem hy
    exact ⟨p, q, hp, hq, by omega, e1, e2⟩
end Go.Proofs.Ythpenogkejoljaa.Sp
