/-
  PROVED HERE: spans in plain Lean: the document's way from end to end. Conditions: as each theorem states.
-/
import Derived.Test.YthpenogkejoljaaSpA
namespace Go.Proofs.Ythpenogkejoljaa.Sp
/-- The ends, rising, from 0 on. -/
def Up (e : List Int) : Prop := e.Pairwise (· < ·)
theorem Up.lt {e : List Int} (h : Up e) {i j : Nat} (hij : i < j) (hj : j < e.length) : e[i] < e[j] := List.pairwise_iff_getElem.1 h i j (by omega) hj hij
theorem Up.le {e : List Int} (h : Up e) {i j : Nat} (hij : i ≤ j) (hj : j < e.length) : e[i] ≤ e[j] := by
  rcases Nat.lt_or_eq_of_le hij with c | c
  · have := h.lt c hj; omega
  · subst c; exact Int.le_refl _
/-- What the document's loop holds behind the first i stretches. -/
def Ch (e : List Int) (f : Int → Prop) (i : Nat) (o : List Spn) : Prop :=
  Rt o ∧ (∀ a, Hs o a ↔ ∃ j, j < i ∧ ∃ h : j + 1 < e.length, e[j] ≤ a ∧ a < e[j + 1] ∧ f e[j]) ∧ ∀ y ∈ o, ∃ h : i < e.length, y.2 ≤ e[i]
theorem ch_zero (e : List Int) (f : Int → Prop) : Ch e f 0 [] := ⟨rt_nil, fun a => ⟨fun h => absurd h (hs_nil a), fun ⟨j, h, _⟩ => absurd h (Nat.not_lt_zero j)⟩, fun y hy => (by cases hy)⟩
theorem ch_step {e : List Int} {f : Int → Prop} {i : Nat} (hi : i + 1 < e.length) (a : Int) : (∃ j, j < i + 1 ∧ ∃ h : j + 1 < e.length, e[j] ≤ a ∧ a < e[j + 1] ∧ f e[j]) ↔ (∃ j, j < i ∧ ∃ h : j + 1 < e.length, e[j] ≤ a ∧ a < e[j + 1] ∧ f e[j]) ∨ (e[i] ≤ a ∧ a < e[i + 1] ∧ f e[i]) := by
  constructor
  · rintro ⟨j, hj, h, h2⟩
    by_cases c : j = i
    · subst c; exact .inr h2
    · exact .inl ⟨j, by omega, h, h2⟩
  · rintro (⟨j, hj, h, h2⟩ | h2)
    · exact ⟨j, by omega, h, h2⟩
    · exact ⟨i, by omega, hi, h2⟩
theorem ch_skip {e : List Int} {f : Int → Prop} {i : Nat} {o : List Spn} (hu : Up e) (h : Ch e f i o) (hi : i + 1 < e.length) (hf : ¬ f e[i]) : Ch e f (i + 1) o := by
  obtain ⟨a1, a2, a3⟩ := h
  refine ⟨a1, fun a => ?_, fun y hy => ⟨hi, ?_⟩⟩
  · rw [ch_step hi, ← a2 a]
    exact ⟨.inl, fun h => h.elim id fun h => absurd h.2.2 hf⟩
  · obtain ⟨_, h1⟩ := a3 y hy
    have := hu.lt (show i < i + 1 by omega) hi
    omega
theorem ch_new {e : List Int} {f : Int → Prop} {i : Nat} {o : List Spn} (hu : Up e) (h0 : ∀ x ∈ e, 0 ≤ x) (h : Ch e f i o) (hi : i + 1 < e.length) (hf : f e[i]) (hn : ∀ o' x, o = o' ++ [x] → x.2 ≠ e[i]) : Ch e f (i + 1) (o ++ [(e[i], e[i + 1])]) := by
  obtain ⟨a1, a2, a3⟩ := h
  have hl := hu.lt (show i < i + 1 by omega) hi
  have hb : ∀ y ∈ o, y.2 < e[i] := by
    rcases List.eq_nil_or_concat o with rfl | ⟨o', x, rfl⟩
    · intro y hy; cases hy
    · have hx := hn o' x (by simp)
      simp only [List.concat_eq_append] at a1 a3 ⊢
      have hm : x ∈ o' ++ [x] := List.mem_append_right _ (List.mem_singleton.2 rfl)
      obtain ⟨_, h3⟩ := a3 x hm
      exact behind a1 (by omega)
  refine ⟨a1.snoc (h0 _ (List.getElem_mem _)) hl hb, fun a => ?_, fun y hy => ⟨hi, ?_⟩⟩
  · rw [ch_step hi, ← a2 a, hs_append, hs_cons]
    constructor
    · rintro (h | h | h)
      · exact .inl h
      · exact .inr ⟨h.1, h.2, hf⟩
      · exact absurd h (hs_nil a)
    · rintro (h | h)
      · exact .inl h
      · exact .inr (.inl ⟨h.1, h.2.1⟩)
  · rcases List.mem_append.1 hy with hy | hy
    · have := hb y hy; omega
    · obtain rfl := List.mem_singleton.1 hy; exact Int.le_refl _
theorem ch_grow {e : List Int} {f : Int → Prop} {i : Nat} {o : List Spn} {x : Spn} (hu : Up e) (h : Ch e f i (o ++ [x])) (hi : i + 1 < e.length) (hf : f e[i]) (hx : x.2 = e[i]) : Ch e f (i + 1) (o ++ [(x.1, e[i + 1])]) := by
  obtain ⟨a1, a2, a3⟩ := h
  have hl := hu.lt (show i < i + 1 by omega) hi
  obtain ⟨b0, b1, b2⟩ := a1.last
  refine ⟨a1.init.snoc b0 (by simp only; omega) b2, fun a => ?_, fun y hy => ⟨hi, ?_⟩⟩
  · rw [ch_step hi, ← a2 a, hs_append, hs_append, hs_cons, hs_cons]
    have hn := hs_nil a
    constructor
    · rintro (h | h | h)
      · exact .inl (.inl h)
      · simp only at h
        by_cases c : a < x.2
        · exact .inl (.inr (.inl ⟨h.1, c⟩))
        · exact .inr ⟨by omega, by omega, hf⟩
      · exact absurd h hn
    · rintro ((h | h | h) | h)
      · exact .inl h
      · exact .inr (.inl ⟨h.1, by simp only; omega⟩)
      · exact absurd h hn
      · exact .inr (.inl ⟨by simp only; omega, by simp only; omega⟩)
  · rcases List.mem_append.1 hy with hy | hy
    · have := b2 y hy; omega
    · obtain rfl := List.mem_singleton.1 hy; exact Int.le_refl _
/-- The stretch in which a place lies. -/
theorem stretch : ∀ (e : List Int) (a : Int) (h0 : 0 < e.length), e[0] ≤ a → (∃ x ∈ e, a < x) → ∃ j, ∃ h : j + 1 < e.length, e[j] ≤ a ∧ a < e[j + 1]
  | [], _, h, _, _ => absurd h (Nat.lt_irrefl _)
  | [y], a, _, h0, ⟨x, hx, hl⟩ => by
    obtain rfl := List.mem_singleton.1 hx
    simp at h0
    omega
  | y :: z :: r, a, _, h0, ⟨x, hx, hl⟩ => by
    by_cases c : a < z
    · exact ⟨0, by simp, h0, c⟩
    · obtain ⟨j, h, h1, h2⟩ := stretch (z :: r) a (by simp) (by simp; omega) ⟨x, by
        rcases List.mem_cons.1 hx with rfl | hx
        · simp at h0; omega
        · exact hx, hl⟩
      exact ⟨j + 1, by simp at h ⊢; omega, by simpa using h1, by simpa using h2⟩
/-- In a stretch, an end stands behind a place or not as behind the stretch's beginning. -/
theorem stretch_ends {e : List Int} (hu : Up e) {a : Int} {j : Nat} (h : j + 1 < e.length) (h1 : e[j] ≤ a) (h2 : a < e[j + 1]) (t : Int) (ht : t ∈ e) : t ≤ a ↔ t ≤ e[j] := by
  obtain ⟨k, hk, rfl⟩ := List.getElem_of_mem ht
  constructor
  · intro hta
    by_cases c : k ≤ j
    · exact hu.le c (by omega)
    · have := hu.le (show j + 1 ≤ k by omega) hk
      omega
  · intro hta; omega
/-- All ends of l, none below 0, are among e. -/
def Ends (e : List Int) (l : List Spn) : Prop := ∀ x ∈ l, max x.1 0 ∈ e ∧ max x.2 0 ∈ e
theorem has_stretch {e : List Int} {l : List Spn} (hu : Up e) (h0 : ∀ x ∈ e, 0 ≤ x) (he : Ends e l) {a : Int} {j : Nat} (h : j + 1 < e.length) (h1 : e[j] ≤ a) (h2 : a < e[j + 1]) : Hs l a ↔ Hs l e[j] := by
  have hj := h0 _ (List.getElem_mem (show j < e.length by omega))
  have key : ∀ x ∈ l, (x.1 ≤ a ∧ a < x.2) ↔ (x.1 ≤ e[j] ∧ e[j] < x.2) := fun x hx => by
    have k1 := stretch_ends hu h h1 h2 _ (he x hx).1
    have k2 := stretch_ends hu h h1 h2 _ (he x hx).2
    omega
  exact ⟨fun ⟨x, hx, hh⟩ => ⟨x, hx, (key x hx).1 hh⟩, fun ⟨x, hx, hh⟩ => ⟨x, hx, (key x hx).2 hh⟩⟩
theorem has_end {e : List Int} {l : List Spn} (he : Ends e l) {a : Int} (h0 : 0 ≤ a) (h : Hs l a) : ∃ x ∈ e, a < x := by
  obtain ⟨x, hx, h1, h2⟩ := h
  exact ⟨_, (he x hx).2, by omega⟩
/-- What the loop has made is what f says, if f is the same between ends, and no place behind the last one. -/
theorem ch_done {e : List Int} {f : Int → Prop} {o : List Spn} (h0 : ∀ x ∈ e, 0 ≤ x) (hz : ∃ h : 0 < e.length, e[0] = 0) (h : Ch e f (e.length - 1) o)
    (hf : ∀ a j, ∀ h : j + 1 < e.length, e[j] ≤ a → a < e[j + 1] → (f a ↔ f e[j])) (hl : ∀ a, 0 ≤ a → f a → ∃ x ∈ e, a < x) : Rt o ∧ ∀ a, Hs o a ↔ (0 ≤ a ∧ f a) := by
  obtain ⟨a1, a2, _⟩ := h
  obtain ⟨hz0, hz1⟩ := hz
  refine ⟨a1, fun a => ?_⟩
  rw [a2 a]
  constructor
  · rintro ⟨j, _, hj, h1, h2, h3⟩
    have := h0 _ (List.getElem_mem (show j < e.length by omega))
    exact ⟨by omega, (hf a j hj h1 h2).2 h3⟩
  · rintro ⟨h1, h2⟩
    obtain ⟨j, hj, k1, k2⟩ := stretch e a hz0 (by omega) (hl a h1 h2)
    exact ⟨j, by omega, hj, k1, k2, (hf a j hj k1 k2).1 h2⟩
end Go.Proofs.Ythpenogkejoljaa.Sp
