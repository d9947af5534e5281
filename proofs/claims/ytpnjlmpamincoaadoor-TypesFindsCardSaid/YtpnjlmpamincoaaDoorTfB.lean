/-
  PROVED HERE: whether one comes from a check to another in so many steps, plain. Conditions: as each theorem states.
-/
import Derived.Test.YtpnjlmpamincoaaDoorTnH
namespace Go.Proofs.YtpnjlmpamincoaaDoor.Tm
open Go.RowKit Go.Proofs.YtpnjlmpamincoaaDoor.Lex Go.Proofs.YtpnjlmpamincoaaDoor.Dig
def rndF (l : List It) : Nat → Nat → Nat → Bool
  | 0, _, _ => false
  | n + 1, fr, tq => (List.range l.length).any fun k => overP l fr k && (k == tq || (ruleAt l k == 3 && rndF l n k tq))
theorem rnd_some {l : List It} {n fr tq : Nat} : rndF l (n + 1) fr tq = true ↔ ∃ k, k < l.length ∧ overP l fr k = true ∧ (k = tq ∨ (ruleAt l k = 3 ∧ rndF l n k tq = true)) := by
  have e : rndF l (n + 1) fr tq = (List.range l.length).any fun k => overP l fr k && (k == tq || (ruleAt l k == 3 && rndF l n k tq)) := rfl
  rw [e, List.any_eq_true]
  constructor
  · rintro ⟨k, hk, h⟩
    simp only [Bool.and_eq_true, Bool.or_eq_true, beq_iff_eq] at h
    exact ⟨k, List.mem_range.1 hk, h.1, h.2⟩
  · rintro ⟨k, hk, h1, h2⟩
    refine ⟨k, List.mem_range.2 hk, ?_⟩
    simp only [Bool.and_eq_true, Bool.or_eq_true, beq_iff_eq]
    exact ⟨h1, h2⟩
theorem rnd_mono {l : List It} {tq : Nat} : ∀ (n j : Nat), rndF l n j tq = true → rndF l (n + 1) j tq = true := by
  intro n
  induction n with
  | zero => intro j h; cases h
  | succ n ih =>
    intro j h
    obtain ⟨k, h1, h2, h3⟩ := rnd_some.1 h
    exact rnd_some.2 ⟨k, h1, h2, h3.imp id fun h4 => ⟨h4.1, ih k h4.2⟩⟩
theorem rnd_le {l : List It} {tq n m j : Nat} (h : n ≤ m) (hr : rndF l n j tq = true) : rndF l m j tq = true := by
  obtain ⟨d, rfl⟩ := Nat.exists_eq_add_of_le h
  clear h
  induction d with
  | zero => exact hr
  | succ d ih => exact rnd_mono _ _ ih
theorem rnd_stable {l : List It} {tq n : Nat} (h : ∀ j, j < l.length → rndF l (n + 1) j tq = true → rndF l n j tq = true) : ∀ d j, j < l.length → rndF l (n + d) j tq = true → rndF l n j tq = true := by
  intro d
  induction d with
  | zero => intro j _ hr; exact hr
  | succ d ih =>
    intro j hj hr
    obtain ⟨k, h1, h2, h3⟩ := rnd_some.1 hr
    exact h j hj (rnd_some.2 ⟨k, h1, h2, h3.imp id fun h4 => ⟨h4.1, ih k h1 h4.2⟩⟩)
/-- As many steps as there are items are enough. -/
theorem rnd_len {l : List It} {tq N j : Nat} (hj : j < l.length) (h : rndF l N j tq = true) : rndF l l.length j tq = true := by
  by_cases hs : ∃ n, n ≤ l.length ∧ ∀ j, j < l.length → rndF l (n + 1) j tq = true → rndF l n j tq = true
  · obtain ⟨n, hn, hst⟩ := hs
    rcases Nat.lt_or_ge N n with e | e
    · exact rnd_le (by omega) h
    · obtain ⟨d, rfl⟩ := Nat.exists_eq_add_of_le e
      exact rnd_le hn (rnd_stable hst d j hj h)
  · exfalso
    have key : ∀ n, n ≤ l.length + 1 → n ≤ ((List.range l.length).filter fun j => rndF l n j tq).length := by
      intro n
      induction n with
      | zero => intro _; exact Nat.zero_le _
      | succ n ih =>
        intro hn
        have h1 := ih (by omega)
        have h2 : ¬ ∀ j, j < l.length → rndF l (n + 1) j tq = true → rndF l n j tq = true := fun hst => hs ⟨n, by omega, hst⟩
        have h3 : ∃ j, j < l.length ∧ rndF l (n + 1) j tq = true ∧ rndF l n j tq = false := by
          refine Classical.byContradiction fun hc => h2 fun j hj hr => ?_
          cases e : rndF l n j tq with
          | true => rfl
          | false => exact absurd ⟨j, hj, hr, e⟩ hc
        obtain ⟨k, hk, h4, h5⟩ := h3
        have h6 := filter_lt (p := fun j => rndF l (n + 1) j tq) (q := fun j => rndF l n j tq) (List.mem_range.2 hk) h4 h5 (fun x _ hx => rnd_mono n x hx)
        omega
    have h1 := key (l.length + 1) (Nat.le_refl _)
    have h2 := List.length_filter_le (fun j => rndF l (l.length + 1) j tq) (List.range l.length)
    rw [List.length_range] at h2
    omega
theorem rch_cons {l : List It} {i k y : Nat} (hk : k ∈ cov l i) (h : Rch l k y) : Rch l i y := by
  induction h with
  | one hy => exact .more (.one hk) hy
  | more _ hy ih => exact .more ih hy
/-- Each check's first part is there. -/
def FstOk (l : List It) : Prop := ∀ j (h : j < l.length), l[j].rule = 3 → 0 ≤ whichI l l[j].first
theorem over_cov {l : List It} (hf : FstOk l) {j k : Nat} (hj : j < l.length) (hk : k < l.length) (hr : ruleAt l j = 3) (hrk : ruleAt l k = 3) : overP l j k = true ↔ k ∈ cov l j := by
  rw [ruleAt_at hj] at hr
  rw [ruleAt_at hk] at hrk
  have h0 := hf j hj hr
  rw [cov_at hj]
  unfold coversF overP
  rw [List.mem_filter, List.mem_range, List.getElem?_eq_getElem hj]
  unfold coverP
  rw [List.getElem?_eq_getElem hk]
  simp only [hr, hrk, BEq.rfl, Bool.true_and, Bool.and_true, Bool.and_eq_true, decide_eq_true_eq]
  exact ⟨fun h => ⟨hk, h0, h.1, h.2⟩, fun h => ⟨h.2.2.1, h.2.2.2⟩⟩
theorem rnd_rch {l : List It} (hf : FstOk l) {tq : Nat} (ht : ruleAt l tq = 3) : ∀ (n j : Nat), j < l.length → ruleAt l j = 3 → rndF l n j tq = true → Rch l j tq := by
  intro n
  induction n with
  | zero => intro j _ _ h; cases h
  | succ n ih =>
    intro j hj hr h
    obtain ⟨k, h1, h2, h3⟩ := rnd_some.1 h
    rcases h3 with rfl | ⟨h3, h4⟩
    · exact .one ((over_cov hf hj h1 hr ht).1 h2)
    · exact rch_cons ((over_cov hf hj h1 hr h3).1 h2) (ih k h1 h3 h4)
theorem rnd_snoc {l : List It} (hf : FstOk l) {x y : Nat} (hx : x < l.length) (hrx : ruleAt l x = 3) (hy : y ∈ cov l x) (hry : ruleAt l y = 3) : ∀ (n j : Nat), rndF l n j x = true → rndF l (n + 1) j y = true := by
  have hyl := cov_lt hy
  have h1 : rndF l 1 x y = true := rnd_some.2 ⟨y, hyl, (over_cov hf hx hyl hrx hry).2 hy, .inl rfl⟩
  intro n
  induction n with
  | zero => intro j h; cases h
  | succ n ih =>
    intro j h
    obtain ⟨k, h2, h3, h4⟩ := rnd_some.1 h
    rcases h4 with rfl | ⟨h4, h5⟩
    · exact rnd_some.2 ⟨k, h2, h3, .inr ⟨hrx, rnd_le (by omega) h1⟩⟩
    · exact rnd_some.2 ⟨k, h2, h3, .inr ⟨h4, ih k h5⟩⟩
theorem rch_rnd {l : List It} (hf : FstOk l) {i y : Nat} (hi : i < l.length) (hr : ruleAt l i = 3) (h : Rch l i y) : (y < l.length ∧ ruleAt l y = 3) ∧ ∃ n, rndF l n i y = true := by
  have hcr : ∀ a b, b ∈ cov l a → b < l.length ∧ ruleAt l b = 3 := by
    intro a b hb
    have hk := cov_lt hb
    refine ⟨hk, ?_⟩
    unfold cov at hb
    split at hb
    · obtain ⟨_, h2⟩ := List.mem_filter.1 hb
      unfold coverP at h2
      rw [List.getElem?_eq_getElem hk] at h2
      simp only [Bool.and_eq_true, beq_iff_eq] at h2
      rw [ruleAt_at hk]
      exact h2.2
    · cases hb
  induction h with
  | one hy =>
    obtain ⟨h1, h2⟩ := hcr _ _ hy
    exact ⟨⟨h1, h2⟩, 1, rnd_some.2 ⟨_, h1, (over_cov hf hi h1 hr h2).2 hy, .inl rfl⟩⟩
  | more _ hy ih =>
    obtain ⟨⟨h1, h2⟩, n, h3⟩ := ih
    obtain ⟨h4, h5⟩ := hcr _ _ hy
    exact ⟨⟨h4, h5⟩, n + 1, rnd_snoc hf h1 h2 hy h5 n i h3⟩
theorem rnd_iff {l : List It} (hf : FstOk l) {i : Nat} (hi : i < l.length) (hr : ruleAt l i = 3) : rndF l l.length i i = true ↔ Rch l i i :=
  ⟨rnd_rch hf hr _ i hi hr, fun h => by
    obtain ⟨_, n, h2⟩ := rch_rnd hf hi hr h
    exact rnd_len hi h2⟩
/-- What firstOf tells of the rules' first parts. -/
theorem fst_of {l : List It} (h : (firstOf (ruleF l) l 0).1 = 0) : FstOk l := by
  intro j hj hr
  have h1 := firstOf_good l 0 h j hj
  unfold ruleF at h1
  rw [if_neg (by rw [hr]; decide)] at h1
  by_cases hb : whichI l l[j].first < 0 ∨ ruleB l l[j] < 0
  · rw [if_pos hb] at h1
    cases h1
  · omega
/-- The program's way to the cycle. -/
def cycP (l : List It) (i : Nat) (x : It) : Int × Int := if (x.rule == 3 && rndF l l.length i i) = true then (11, (x.at_ : Int)) else good
theorem firstOf_congr {f g : Nat → It → Int × Int} : ∀ (r : List It) (i : Nat), (∀ j (h : j < r.length), f (i + j) r[j] = g (i + j) r[j]) → firstOf f r i = firstOf g r i := by
  intro r
  induction r with
  | nil => intro i _; rfl
  | cons x r ih =>
    intro i h
    have h0 := h 0 (by simp)
    rw [Nat.add_zero, List.getElem_cons_zero] at h0
    rw [firstOf, firstOf, h0]
    split
    · rfl
    · refine ih (i + 1) fun j hj => ?_
      have := h (j + 1) (by simpa using hj)
      rw [List.getElem_cons_succ, show i + (j + 1) = i + 1 + j by omega] at this
      exact this
theorem cyc_same {l : List It} (h : (firstOf (ruleF l) l 0).1 = 0) : firstOf (cycP l) l 0 = firstOf (cycF l) l 0 := by
  have hf := fst_of h
  refine firstOf_congr l 0 fun j hj => ?_
  rw [Nat.zero_add]
  unfold cycP cycF
  by_cases hr : l[j].rule = 3
  · by_cases hc : rndF l l.length j j = true
    · rw [if_pos (by rw [hc, hr]; rfl), if_pos ⟨hr, (rnd_iff hf hj (by rw [ruleAt_at hj]; exact hr)).1 hc⟩]
    · rw [if_neg (fun e => hc (by simp only [Bool.and_eq_true] at e; exact e.2)), if_neg (fun e => hc ((rnd_iff hf hj (by rw [ruleAt_at hj]; exact hr)).2 e.2))]
  · rw [if_neg (fun e => hr (by simp only [Bool.and_eq_true, beq_iff_eq] at e; exact e.1)), if_neg (fun e => hr e.1)]
theorem rulesF_prog (l : List It) : rulesF l = if (firstOf (ruleF l) l 0).1 ≠ 0 then firstOf (ruleF l) l 0 else firstOf (cycP l) l 0 := by
  unfold rulesF
  by_cases h : (firstOf (ruleF l) l 0).1 ≠ 0
  · rw [if_pos h, if_pos h]
  · rw [if_neg h, if_neg h, cyc_same (by simpa using h)]
end Go.Proofs.YtpnjlmpamincoaaDoor.Tm
