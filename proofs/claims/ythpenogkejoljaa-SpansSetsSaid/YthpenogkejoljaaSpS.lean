/-
  PROVED HERE: the places that are not in a row, in plain Lean. Conditions: as each theorem states.
-/
import Derived.Test.YthpenogkejoljaaSpB
namespace Go.Proofs.Ythpenogkejoljaa.Sp
theorem Rt.order {r : List Spn} (h : Rt r) {i j : Nat} (hij : i < j) (hj : j < r.length) : (r[i]'(by omega)).2 < r[j].1 := List.pairwise_iff_getElem.1 h.2 i j (by omega) hj hij
/-- What Not holds behind the first k of the row r. -/
def Nt (r : List Spn) (n : Int) (k : Nat) (at_ : Int) (o : List Spn) : Prop :=
  Rt o ∧ 0 ≤ at_ ∧ (∀ y ∈ o, y.2 < at_) ∧ (∀ a, Hs o a ↔ 0 ≤ a ∧ a < at_ ∧ ¬ Hs r a) ∧ (at_ = 0 ∨ ∃ x ∈ r, x.2 = at_ ∧ x.1 < n) ∧ (∀ j, ∀ h : j < r.length, j < k → r[j].2 ≤ at_) ∧ (∀ j, ∀ h : j < r.length, k ≤ j → at_ ≤ r[j].1)
theorem nt_zero {r : List Spn} (h : Rt r) (n : Int) : Nt r n 0 0 [] :=
  ⟨rt_nil, Int.le_refl _, fun y hy => (by cases hy), fun a => ⟨fun h => absurd h (hs_nil a), fun ⟨h1, h2, _⟩ => absurd h2 (by omega)⟩, .inl rfl, fun j _ h => absurd h (Nat.not_lt_zero j), fun j hj _ => (h.1 _ (List.getElem_mem hj)).1⟩
theorem nt_gap {r : List Spn} {n at_ : Int} {k : Nat} {o : List Spn} (hr : Rt r) (h : Nt r n k at_ o) (hk : k < r.length) {a : Int} (h1 : at_ ≤ a) (h2 : a < r[k].1) : ¬ Hs r a := by
  obtain ⟨_, _, _, _, _, b1, b2⟩ := h
  rintro ⟨y, hy, h3, h4⟩
  obtain ⟨j, hj, rfl⟩ := List.getElem_of_mem hy
  by_cases c : j < k
  · have := b1 j hj c; omega
  · by_cases c2 : j = k
    · subst c2; omega
    · have := hr.order (show k < j by omega) hj
      have := hr.1 _ (List.getElem_mem hk)
      omega
theorem nt_next {r : List Spn} {n at_ : Int} {k : Nat} {o : List Spn} (hr : Rt r) (h : Nt r n k at_ o) (hk : k < r.length) (hn : r[k].1 < n) : Nt r n (k + 1) r[k].2 (if at_ < r[k].1 then o ++ [(at_, r[k].1)] else o) := by
  have hg := fun a => nt_gap (a := a) hr h hk
  obtain ⟨a1, a2, a3, a4, a5, b1, b2⟩ := h
  have hx := hr.1 _ (List.getElem_mem hk)
  have hat := b2 k hk (Nat.le_refl _)
  have hin : ∀ a, r[k].1 ≤ a → a < r[k].2 → Hs r a := fun a c d => ⟨_, List.getElem_mem hk, c, d⟩
  refine ⟨?_, by omega, fun y hy => ?_, fun a => ?_, .inr ⟨_, List.getElem_mem hk, rfl, hn⟩, fun j hj hjk => ?_, fun j hj hjk => ?_⟩
  · split
    · next hc => exact a1.snoc a2 hc a3
    · exact a1
  · split at hy
    · rcases List.mem_append.1 hy with hy | hy
      · have := a3 y hy; omega
      · obtain rfl := List.mem_singleton.1 hy; exact hx.2
    · have := a3 y hy; omega
  · constructor
    · intro hh
      split at hh
      · rcases (hs_append _ _ _).1 hh with hh | hh
        · obtain ⟨c, d, e⟩ := (a4 a).1 hh
          exact ⟨c, by omega, e⟩
        · rcases (hs_cons _ _ _).1 hh with hh | hh
          · simp only at hh
            exact ⟨by omega, by omega, hg a hh.1 hh.2⟩
          · exact absurd hh (hs_nil a)
      · obtain ⟨c, d, e⟩ := (a4 a).1 hh
        exact ⟨c, by omega, e⟩
    · rintro ⟨c, d, e⟩
      have h3 : a < r[k].1 := by
        rcases Int.lt_or_le a r[k].1 with h | h
        · exact h
        · exact absurd (hin a h d) e
      by_cases h4 : a < at_
      · have := (a4 a).2 ⟨c, h4, e⟩
        split
        · exact (hs_append _ _ _).2 (.inl this)
        · exact this
      · rw [if_pos (by omega)]
        exact (hs_append _ _ _).2 (.inr ((hs_cons _ _ _).2 (.inl ⟨by simp only; omega, h3⟩)))
  · rcases Nat.lt_or_ge j k with c | c
    · have := b1 j hj c; omega
    · obtain rfl : j = k := by omega
      exact Int.le_refl _
  · have := hr.order (show k < j by omega) hj
    omega
/-- The end: the rest of r begins from n on. -/
theorem nt_done {r : List Spn} {n at_ : Int} {k : Nat} {o : List Spn} (_hr : Rt r) (h : Nt r n k at_ o) (hk : ∀ j, ∀ h : j < r.length, k ≤ j → n ≤ r[j].1) : Rt (if at_ < n then o ++ [(at_, n)] else o) ∧ ∀ a, Hs (if at_ < n then o ++ [(at_, n)] else o) a ↔ 0 ≤ a ∧ (a < n ∧ ¬ Hs r a) := by
  obtain ⟨a1, a2, a3, a4, a5, b1, b2⟩ := h
  by_cases hc : at_ < n
  · rw [if_pos hc]
    have hout : ∀ a, at_ ≤ a → a < n → ¬ Hs r a := fun a c d => by
      rintro ⟨y, hy, h3, h4⟩
      obtain ⟨j, hj, rfl⟩ := List.getElem_of_mem hy
      rcases Nat.lt_or_ge j k with e | e
      · have := b1 j hj e; omega
      · have := hk j hj e; omega
    refine ⟨a1.snoc a2 hc a3, fun a => ?_⟩
    rw [hs_append, a4 a, hs_cons]
    constructor
    · rintro (⟨c, d, e⟩ | hh | hh)
      · exact ⟨c, by omega, e⟩
      · simp only at hh
        exact ⟨by omega, hh.2, hout a hh.1 hh.2⟩
      · exact absurd hh (hs_nil a)
    · rintro ⟨c, d, e⟩
      by_cases h4 : a < at_
      · exact .inl ⟨c, h4, e⟩
      · exact .inr (.inl ⟨by simp only; omega, d⟩)
  · rw [if_neg hc]
    refine ⟨a1, fun a => ?_⟩
    rw [a4 a]
    constructor
    · rintro ⟨c, d, e⟩
      refine ⟨c, ?_, e⟩
      rcases Int.lt_or_le a n with h | h
      · exact h
      · rcases a5 with h0 | ⟨x, hx, e1, e2⟩
        · omega
        · exact absurd ⟨x, hx, by omega, by omega⟩ e
    · rintro ⟨c, d, e⟩
      exact ⟨c, by omega, e⟩
end Go.Proofs.Ythpenogkejoljaa.Sp
