/-
  PROVED HERE: spans in plain Lean: a row that stands right is told by its places. Conditions: as each theorem states.
-/
import Derived.Test.YthpenogkejoljaaRows
namespace Go.Proofs.Ythpenogkejoljaa.Sp
abbrev Spn := Int × Int
def Hs (l : List Spn) (a : Int) : Prop := ∃ x ∈ l, x.1 ≤ a ∧ a < x.2
/-- The spans stand in a row: each of one place at least, from 0 on, none touching the next. -/
def Rt (l : List Spn) : Prop := (∀ x ∈ l, 0 ≤ x.1 ∧ x.1 < x.2) ∧ l.Pairwise fun a b => a.2 < b.1
theorem hs_nil (a : Int) : ¬ Hs [] a := by rintro ⟨x, h, _⟩; cases h
theorem hs_cons (x : Spn) (l : List Spn) (a : Int) : Hs (x :: l) a ↔ (x.1 ≤ a ∧ a < x.2) ∨ Hs l a := by
  constructor
  · rintro ⟨y, h, h2⟩
    rcases List.mem_cons.1 h with rfl | h
    · exact .inl h2
    · exact .inr ⟨y, h, h2⟩
  · rintro (h | ⟨y, h, h2⟩)
    · exact ⟨x, List.mem_cons_self, h⟩
    · exact ⟨y, List.mem_cons_of_mem _ h, h2⟩
theorem hs_append (l m : List Spn) (a : Int) : Hs (l ++ m) a ↔ Hs l a ∨ Hs m a := by
  constructor
  · rintro ⟨y, h, h2⟩
    rcases List.mem_append.1 h with h | h
    · exact .inl ⟨y, h, h2⟩
    · exact .inr ⟨y, h, h2⟩
  · rintro (⟨y, h, h2⟩ | ⟨y, h, h2⟩)
    · exact ⟨y, List.mem_append_left _ h, h2⟩
    · exact ⟨y, List.mem_append_right _ h, h2⟩
theorem Rt.tail {x : Spn} {l : List Spn} (h : Rt (x :: l)) : Rt l := ⟨fun y hy => h.1 y (List.mem_cons_of_mem _ hy), (List.pairwise_cons.1 h.2).2⟩
theorem Rt.head {x : Spn} {l : List Spn} (h : Rt (x :: l)) : 0 ≤ x.1 ∧ x.1 < x.2 := h.1 x List.mem_cons_self
/-- What is in the rest stands behind the first. -/
theorem Rt.rest {x : Spn} {l : List Spn} (h : Rt (x :: l)) {a : Int} (ha : Hs l a) : x.2 < a := by
  obtain ⟨y, hy, h1, _⟩ := ha
  have := (List.pairwise_cons.1 h.2).1 y hy
  omega
theorem Rt.first {x : Spn} {l : List Spn} (h : Rt (x :: l)) {a : Int} (ha : Hs (x :: l) a) : x.1 ≤ a := by
  rcases (hs_cons _ _ _).1 ha with ⟨h1, _⟩ | h1
  · exact h1
  · have := h.rest h1
    have := h.head
    omega
theorem Rt.gap {x : Spn} {l : List Spn} (h : Rt (x :: l)) : ¬ Hs (x :: l) x.2 := by
  intro hh
  rcases (hs_cons _ _ _).1 hh with ⟨_, h1⟩ | h1
  · omega
  · have := h.rest h1
    omega
theorem right_unique : ∀ (l m : List Spn), Rt l → Rt m → (∀ a, Hs l a ↔ Hs m a) → l = m
  | [], [], _, _, _ => rfl
  | [], y :: m, _, hm, h => absurd ((h y.1).2 ((hs_cons _ _ _).2 (.inl ⟨Int.le_refl _, hm.head.2⟩))) (hs_nil _)
  | x :: l, [], hl, _, h => absurd ((h x.1).1 ((hs_cons _ _ _).2 (.inl ⟨Int.le_refl _, hl.head.2⟩))) (hs_nil _)
  | x :: l, y :: m, hl, hm, h => by
    have a1 : y.1 ≤ x.1 := hm.first ((h x.1).1 ((hs_cons _ _ _).2 (.inl ⟨Int.le_refl _, hl.head.2⟩)))
    have a2 : x.1 ≤ y.1 := hl.first ((h y.1).2 ((hs_cons _ _ _).2 (.inl ⟨Int.le_refl _, hm.head.2⟩)))
    have hx := hl.head
    have hy := hm.head
    have b1 : y.2 ≤ x.2 := by
      rcases Int.lt_or_le x.2 y.2 with c | c
      · exact absurd ((h x.2).2 ((hs_cons _ _ _).2 (.inl ⟨by omega, c⟩))) hl.gap
      · exact c
    have b2 : x.2 ≤ y.2 := by
      rcases Int.lt_or_le y.2 x.2 with c | c
      · exact absurd ((h y.2).1 ((hs_cons _ _ _).2 (.inl ⟨by omega, c⟩))) hm.gap
      · exact c
    have hxy : x = y := Prod.ext (by omega) (by omega)
    subst hxy
    have ht : l = m := right_unique l m hl.tail hm.tail (fun a => by
      constructor
      · intro ha
        have := hl.rest ha
        rcases (hs_cons _ _ _).1 ((h a).1 ((hs_cons _ _ _).2 (.inr ha))) with c | c
        · omega
        · exact c
      · intro ha
        have := hm.rest ha
        rcases (hs_cons _ _ _).1 ((h a).2 ((hs_cons _ _ _).2 (.inr ha))) with c | c
        · omega
        · exact c)
    rw [ht]
theorem rt_nil : Rt [] := ⟨fun x h => (by cases h), .nil⟩
/-- One span more, behind all. -/
theorem Rt.snoc {l : List Spn} {x : Spn} (h : Rt l) (h0 : 0 ≤ x.1) (h1 : x.1 < x.2) (h2 : ∀ y ∈ l, y.2 < x.1) : Rt (l ++ [x]) :=
  ⟨fun y hy => by
    rcases List.mem_append.1 hy with hy | hy
    · exact h.1 y hy
    · obtain rfl := List.mem_singleton.1 hy
      exact ⟨h0, h1⟩, List.pairwise_append.2 ⟨h.2, List.pairwise_singleton _ _, fun a ha b hb => by obtain rfl := List.mem_singleton.1 hb; exact h2 a ha⟩⟩
theorem Rt.init {l : List Spn} {x : Spn} (h : Rt (l ++ [x])) : Rt l := ⟨fun y hy => h.1 y (List.mem_append_left _ hy), (List.pairwise_append.1 h.2).1⟩
theorem Rt.last {l : List Spn} {x : Spn} (h : Rt (l ++ [x])) : 0 ≤ x.1 ∧ x.1 < x.2 ∧ ∀ y ∈ l, y.2 < x.1 :=
  ⟨(h.1 x (List.mem_append_right _ (List.mem_singleton.2 rfl))).1, (h.1 x (List.mem_append_right _ (List.mem_singleton.2 rfl))).2, fun y hy => (List.pairwise_append.1 h.2).2.2 y hy x (List.mem_singleton.2 rfl)⟩
/-- What the merging holds behind the first k of the sorted spans s. -/
def Mg (s : List Spn) (k : Nat) (o : List Spn) : Prop := Rt o ∧ (∀ a, Hs o a ↔ Hs (s.take k) a) ∧ (k ≠ 0 → o ≠ []) ∧ ∀ y ∈ o, ∃ j, j < k ∧ ∃ h : j < s.length, s[j].1 = y.1
theorem mg_zero (s : List Spn) : Mg s 0 [] := ⟨rt_nil, fun a => by simp, fun h => absurd rfl h, fun y hy => (by cases hy)⟩
theorem hs_take_succ (s : List Spn) (k : Nat) (hk : k < s.length) (a : Int) : Hs (s.take (k + 1)) a ↔ Hs (s.take k) a ∨ (s[k].1 ≤ a ∧ a < s[k].2) := by
  rw [List.take_succ_eq_append_getElem hk, hs_append, hs_cons]
  constructor
  · rintro (h | h | h)
    · exact .inl h
    · exact .inr h
    · exact absurd h (hs_nil _)
  · rintro (h | h)
    · exact .inl h
    · exact .inr (.inl h)
/-- The span at hand is one more. -/
theorem mg_new {s : List Spn} {k : Nat} {o : List Spn} (h : Mg s k o) (hk : k < s.length) (h0 : 0 ≤ s[k].1) (h1 : s[k].1 < s[k].2) (h2 : ∀ y ∈ o, y.2 < s[k].1) : Mg s (k + 1) (o ++ [s[k]]) := by
  obtain ⟨a1, a2, a3, a4⟩ := h
  refine ⟨a1.snoc h0 h1 h2, fun a => ?_, fun _ => by simp, fun y hy => ?_⟩
  · rw [hs_take_succ s k hk, hs_append, a2 a, hs_cons]
    constructor
    · rintro (h | h | h)
      · exact .inl h
      · exact .inr h
      · exact absurd h (hs_nil _)
    · rintro (h | h)
      · exact .inl h
      · exact .inr (.inl h)
  · rcases List.mem_append.1 hy with hy | hy
    · obtain ⟨j, hj, hl, e⟩ := a4 y hy
      exact ⟨j, by omega, hl, e⟩
    · obtain rfl := List.mem_singleton.1 hy
      exact ⟨k, by omega, hk, rfl⟩
/-- The span at hand begins in the last one, or right behind it. -/
theorem mg_grow {s : List Spn} {k : Nat} {o : List Spn} {x : Spn} (h : Mg s k (o ++ [x])) (hk : k < s.length) (hs : ∀ j (h : j < k), (s[j]'(by omega)).1 ≤ s[k].1) (h1 : s[k].1 < s[k].2) (h2 : s[k].1 ≤ x.2) : Mg s (k + 1) (o ++ [(x.1, max x.2 s[k].2)]) := by
  obtain ⟨a1, a2, a3, a4⟩ := h
  obtain ⟨b0, b1, b2⟩ := a1.last
  have hx : x.1 ≤ s[k].1 := by
    obtain ⟨j, hj, _, e⟩ := a4 x (List.mem_append_right _ (List.mem_singleton.2 rfl))
    have := hs j hj
    omega
  refine ⟨a1.init.snoc b0 (by simp only; omega) b2, fun a => ?_, fun _ => by simp, fun y hy => ?_⟩
  · rw [hs_take_succ s k hk, ← a2 a, hs_append, hs_append, hs_cons, hs_cons]
    have hn := hs_nil a
    constructor
    · rintro (h | h | h)
      · exact .inl (.inl h)
      · simp only at h
        by_cases c : a < x.2
        · exact .inl (.inr (.inl ⟨h.1, c⟩))
        · exact .inr ⟨by omega, by omega⟩
      · exact absurd h hn
    · rintro ((h | h | h) | h)
      · exact .inl h
      · exact .inr (.inl ⟨h.1, by simp only; omega⟩)
      · exact absurd h hn
      · exact .inr (.inl ⟨by simp only; omega, by simp only; omega⟩)
  · rcases List.mem_append.1 hy with hy | hy
    · obtain ⟨j, hj, hl, e⟩ := a4 y (List.mem_append_left _ hy)
      exact ⟨j, by omega, hl, e⟩
    · obtain rfl := List.mem_singleton.1 hy
      obtain ⟨j, hj, hl, e⟩ := a4 x (List.mem_append_right _ (List.mem_singleton.2 rfl))
      exact ⟨j, by omega, hl, e⟩
/-- In a row, whoever stands before the last ends before it begins: where x begins behind the last one's end, it stands behind all. -/
theorem behind {o : List Spn} {x : Spn} (h : Rt (o ++ [x])) {c : Int} (hc : x.2 < c) : ∀ y ∈ o ++ [x], y.2 < c := fun y hy => by
  rcases List.mem_append.1 hy with hy | hy
  · have h1 := h.last.2.2 y hy
    have h2 := h.last
    omega
  · obtain rfl := List.mem_singleton.1 hy
    exact hc
end Go.Proofs.Ythpenogkejoljaa.Sp
