/-
  PROVED HERE: how much two texts have in common, as a table; that MYERS's way finds the least number of bytes left out and put in; in plain Lean. Conditions: as each theorem states.
-/
import Derived.Test.YtjicnffafhbmbaaDoorMem
namespace Go.Proofs.YtjicnffafhbmbaaDoor.My
/-- How many bytes both have in common at most, in their order, from i and from j on. -/
def T (a b : ByteArray) (i j : Nat) : Nat :=
  if _h : i < a.size ∧ j < b.size then (if byteAt a i = byteAt b j then T a b (i + 1) (j + 1) + 1 else max (T a b (i + 1) j) (T a b i (j + 1))) else 0
  termination_by (a.size - i) + (b.size - j)
section
variable {a b : ByteArray}
theorem t_end {i j : Nat} (h : a.size ≤ i ∨ b.size ≤ j) : T a b i j = 0 := by
  rw [T, dif_neg (by omega)]
theorem t_eq {i j : Nat} (hi : i < a.size) (hj : j < b.size) (e : byteAt a i = byteAt b j) : T a b i j = T a b (i + 1) (j + 1) + 1 := by
  rw [T, dif_pos ⟨hi, hj⟩, if_pos e]
theorem t_ne {i j : Nat} (hi : i < a.size) (hj : j < b.size) (e : byteAt a i ≠ byteAt b j) : T a b i j = max (T a b (i + 1) j) (T a b i (j + 1)) := by
  rw [T, dif_pos ⟨hi, hj⟩, if_neg e]
theorem t_all (s : Nat) : ∀ i j, (a.size - i) + (b.size - j) ≤ s → T a b (i + 1) j ≤ T a b i j ∧ T a b i (j + 1) ≤ T a b i j ∧ T a b i j ≤ T a b (i + 1) j + 1 ∧ T a b i j ≤ T a b i (j + 1) + 1 := by
  induction s with
  | zero =>
    intro i j h
    rw [t_end (i := i) (j := j) (by omega), t_end (i := i + 1) (j := j) (by omega), t_end (i := i) (j := j + 1) (by omega)]
    omega
  | succ s ih =>
    intro i j h
    by_cases g : i < a.size ∧ j < b.size
    · obtain ⟨gi, gj⟩ := g
      have h1 := ih (i + 1) j (by omega)
      have h2 := ih i (j + 1) (by omega)
      by_cases e : byteAt a i = byteAt b j
      · rw [t_eq gi gj e]
        omega
      · rw [t_ne gi gj e]
        omega
    · rw [t_end (i := i) (j := j) (by omega), t_end (i := i + 1) (j := j) (by omega), t_end (i := i) (j := j + 1) (by omega)]
      omega
theorem t_m1 (i j : Nat) : T a b (i + 1) j ≤ T a b i j := (t_all _ i j (Nat.le_refl _)).1
theorem t_m2 (i j : Nat) : T a b i (j + 1) ≤ T a b i j := (t_all _ i j (Nat.le_refl _)).2.1
theorem t_l1 (i j : Nat) : T a b i j ≤ T a b (i + 1) j + 1 := (t_all _ i j (Nat.le_refl _)).2.2.1
theorem t_l2 (i j : Nat) : T a b i j ≤ T a b i (j + 1) + 1 := (t_all _ i j (Nat.le_refl _)).2.2.2
/-- The document's table. -/
theorem t_doc {i j : Nat} (hi : i < a.size) (hj : j < b.size) (e : byteAt a i = byteAt b j) : max (max (T a b (i + 1) j) (T a b i (j + 1))) (1 + T a b (i + 1) (j + 1)) = T a b i j := by
  have h1 := t_m1 (a := a) (b := b) i j
  have h2 := t_m2 (a := a) (b := b) i j
  have h3 := t_eq hi hj e
  omega
/-- Which of two is taken out first: both ask the same. -/
theorem t_pick {i j : Nat} (hi : i < a.size) (hj : j < b.size) (e : byteAt a i ≠ byteAt b j) : T a b i (j + 1) ≤ T a b (i + 1) j ↔ T a b (i + 1) j = T a b i j := by
  have h3 := t_ne hi hj e
  omega
theorem t_bound (s : Nat) : ∀ i j, (a.size - i) + (b.size - j) ≤ s → 2 * T a b i j ≤ (a.size - i) + (b.size - j) := by
  induction s with
  | zero => intro i j h; rw [t_end (by omega)]; omega
  | succ s ih =>
    intro i j h
    by_cases g : i < a.size ∧ j < b.size
    · obtain ⟨gi, gj⟩ := g
      by_cases e : byteAt a i = byteAt b j
      · rw [t_eq gi gj e]
        have := ih (i + 1) (j + 1) (by omega)
        omega
      · rw [t_ne gi gj e]
        have h1 := ih (i + 1) j (by omega)
        have h2 := ih i (j + 1) (by omega)
        omega
    · rw [t_end (by omega)]; omega
end
/-- The least number of bytes left out and put in. -/
def D (a b : ByteArray) : Nat := a.size + b.size - 2 * T a b 0 0
theorem d_is (a b : ByteArray) : D a b + 2 * T a b 0 0 = a.size + b.size := by
  have := t_bound (a := a) (b := b) _ 0 0 (Nat.le_refl _)
  unfold D; omega
/-- Where one comes by so many bytes left out or put in. -/
inductive Rch (a b : ByteArray) : Nat → Nat → Nat → Prop
  | zero : Rch a b 0 0 0
  | diag {d x y : Nat} : Rch a b d x y → x < a.size → y < b.size → byteAt a x = byteAt b y → Rch a b d (x + 1) (y + 1)
  | right {d x y : Nat} : Rch a b d x y → Rch a b (d + 1) (x + 1) y
  | down {d x y : Nat} : Rch a b d x y → Rch a b (d + 1) x (y + 1)
section
variable {a b : ByteArray}
theorem rch_pot {d x y : Nat} (h : Rch a b d x y) : x + y + 2 * T a b x y ≤ d + 2 * T a b 0 0 := by
  induction h with
  | zero => omega
  | diag h hx hy e ih => rw [t_eq hx hy e] at ih; omega
  | @right d x y h ih => have := t_m1 (a := a) (b := b) x y; omega
  | @down d x y h ih => have := t_m2 (a := a) (b := b) x y; omega
theorem rch_side {d x y : Nat} (h : Rch a b d x y) : x ≤ y + d ∧ y ≤ x + d ∧ (x + y + d) % 2 = 0 := by
  induction h with
  | zero => omega
  | diag _ _ _ _ ih => omega
  | right _ ih => omega
  | down _ ih => omega
theorem rch_least {d x y : Nat} (h : Rch a b d x y) (hx : a.size ≤ x) (hy : b.size ≤ y) : D a b ≤ d := by
  have h1 := rch_pot h
  have h2 := d_is a b
  omega
theorem rch_go (s : Nat) : ∀ d i j, (a.size - i) + (b.size - j) ≤ s → i ≤ a.size → j ≤ b.size → Rch a b d i j → Rch a b (d + ((a.size - i) + (b.size - j) - 2 * T a b i j)) a.size b.size := by
  induction s with
  | zero =>
    intro d i j h hi hj hr
    obtain rfl : i = a.size := by omega
    obtain rfl : j = b.size := by omega
    rw [t_end (by omega)]
    simpa using hr
  | succ s ih =>
    intro d i j h hi hj hr
    by_cases gi : i < a.size
    · by_cases gj : j < b.size
      · by_cases e : byteAt a i = byteAt b j
        · have h1 := ih d (i + 1) (j + 1) (by omega) (by omega) (by omega) (hr.diag gi gj e)
          have h2 := t_eq gi gj e
          rw [show d + (a.size - i + (b.size - j) - 2 * T a b i j) = d + (a.size - (i + 1) + (b.size - (j + 1)) - 2 * T a b (i + 1) (j + 1)) by omega]
          exact h1
        · have h2 := t_ne gi gj e
          by_cases c : T a b i (j + 1) ≤ T a b (i + 1) j
          · have h1 := ih (d + 1) (i + 1) j (by omega) (by omega) (by omega) hr.right
            have h3 := t_bound (a := a) (b := b) _ (i + 1) j (Nat.le_refl _)
            rw [show d + (a.size - i + (b.size - j) - 2 * T a b i j) = d + 1 + (a.size - (i + 1) + (b.size - j) - 2 * T a b (i + 1) j) by omega]
            exact h1
          · have h1 := ih (d + 1) i (j + 1) (by omega) (by omega) (by omega) hr.down
            have h3 := t_bound (a := a) (b := b) _ i (j + 1) (Nat.le_refl _)
            rw [show d + (a.size - i + (b.size - j) - 2 * T a b i j) = d + 1 + (a.size - i + (b.size - (j + 1)) - 2 * T a b i (j + 1)) by omega]
            exact h1
      · have h1 := ih (d + 1) (i + 1) j (by omega) (by omega) (by omega) hr.right
        rw [t_end (by omega)] at h1 ⊢
        rw [show d + (a.size - i + (b.size - j) - 2 * 0) = d + 1 + (a.size - (i + 1) + (b.size - j) - 2 * 0) by omega]
        exact h1
    · by_cases gj : j < b.size
      · have h1 := ih (d + 1) i (j + 1) (by omega) (by omega) (by omega) hr.down
        rw [t_end (by omega)] at h1 ⊢
        rw [show d + (a.size - i + (b.size - j) - 2 * 0) = d + 1 + (a.size - i + (b.size - (j + 1)) - 2 * 0) by omega]
        exact h1
      · obtain rfl : i = a.size := by omega
        obtain rfl : j = b.size := by omega
        rw [t_end (by omega)]
        simpa using hr
theorem rch_D : Rch a b (D a b) a.size b.size := by
  have h := rch_go (a := a) (b := b) _ 0 0 0 (Nat.le_refl _) (Nat.zero_le _) (Nat.zero_le _) .zero
  unfold D
  simpa using h
/-- Bytes that are the same from one place of a diagonal up to another one. -/
def Snk (a b : ByteArray) (k : Int) (s x : Nat) : Prop := s ≤ x ∧ k ≤ s ∧ ∀ z, s ≤ z → z < x → z < a.size ∧ ((z : Int) - k).toNat < b.size ∧ byteAt a z = byteAt b ((z : Int) - k).toNat
theorem snk_refl {k : Int} {s : Nat} (h : k ≤ s) : Snk a b k s s := ⟨Nat.le_refl _, h, fun z h1 h2 => by omega⟩
theorem snk_next {k : Int} {s x : Nat} (h : Snk a b k s x) (h1 : x < a.size) (h2 : ((x : Int) - k).toNat < b.size) (h3 : byteAt a x = byteAt b ((x : Int) - k).toNat) : Snk a b k s (x + 1) := by
  refine ⟨by have := h.1; omega, h.2.1, fun z g1 g2 => ?_⟩
  by_cases e : z = x
  · subst e; exact ⟨h1, h2, h3⟩
  · exact h.2.2 z g1 (by omega)
theorem snk_rch {k : Int} {s x d : Nat} (h : Snk a b k s x) (hr : Rch a b d s ((s : Int) - k).toNat) : Rch a b d x ((x : Int) - k).toNat := by
  obtain ⟨h1, h2, h3⟩ := h
  have key : ∀ n, s + n ≤ x → Rch a b d (s + n) (((s + n : Nat) : Int) - k).toNat := by
    intro n
    induction n with
    | zero => intro _; simpa using hr
    | succ n ih =>
      intro hn
      have h4 := ih (by omega)
      obtain ⟨g1, g2, g3⟩ := h3 (s + n) (by omega) (by omega)
      have h5 := h4.diag g1 g2 g3
      rw [show (((s + (n + 1) : Nat) : Int) - k).toNat = (((s + n : Nat) : Int) - k).toNat + 1 by omega]
      exact h5
  have := key (x - s) (by omega)
  rw [show s + (x - s) = x by omega] at this
  exact this
/-- The last step that is none down a diagonal. -/
theorem rch_last {d x y : Nat} (h : Rch a b (d + 1) x y) : ∃ s, Snk a b ((x : Int) - y) s x ∧ ((∃ t, s = t + 1 ∧ Rch a b d t ((s : Int) - ((x : Int) - y)).toNat) ∨ (∃ t, ((s : Int) - ((x : Int) - y)).toNat = t + 1 ∧ Rch a b d s t)) := by
  generalize hd : d + 1 = e at h
  induction h with
  | zero => omega
  | @diag d' x' y' h hx hy he ih =>
    obtain ⟨s, h1, h2⟩ := ih hd
    refine ⟨s, ?_, ?_⟩
    · have e1 : (((x' + 1 : Nat) : Int) - ((y' + 1 : Nat) : Int)) = (x' : Int) - y' := by omega
      rw [e1]
      exact snk_next h1 hx (by rw [show ((x' : Int) - ((x' : Int) - y')).toNat = y' by omega]; exact hy) (by rw [show ((x' : Int) - ((x' : Int) - y')).toNat = y' by omega]; exact he)
    · have e1 : (((x' + 1 : Nat) : Int) - ((y' + 1 : Nat) : Int)) = (x' : Int) - y' := by omega
      rw [e1]
      exact h2
  | @right d' x' y' h ih =>
    obtain rfl : d = d' := by omega
    refine ⟨x' + 1, snk_refl (by omega), .inl ⟨x', rfl, ?_⟩⟩
    rw [show (((x' + 1 : Nat) : Int) - (((x' + 1 : Nat) : Int) - y')).toNat = y' by omega]
    exact h
  | @down d' x' y' h ih =>
    obtain rfl : d = d' := by omega
    refine ⟨x', snk_refl (by omega), .inr ⟨y', by omega, h⟩⟩
/-- The farthest place of a diagonal. -/
def Fur (a b : ByteArray) (d : Nat) (k : Int) (x : Nat) : Prop := k ≤ x ∧ Rch a b d x ((x : Int) - k).toNat ∧ ∀ x' y' : Nat, (x' : Int) - y' = k → Rch a b d x' y' → x' ≤ x
theorem fur_zero {x : Nat} (h : Snk a b 0 0 x) (hn : ¬ (x < a.size ∧ x < b.size ∧ byteAt a x = byteAt b x)) : Fur a b 0 0 x := by
  refine ⟨by omega, snk_rch h (by simpa using Rch.zero), fun x' y' hk hr => ?_⟩
  have key : ∀ {d x' y' : Nat}, Rch a b d x' y' → d = 0 → x' = y' ∧ Snk a b 0 0 x' := by
    intro d x' y' h
    induction h with
    | zero => intro _; exact ⟨rfl, snk_refl (by omega)⟩
    | diag h hx hy he ih =>
      intro hd
      obtain ⟨rfl, h1⟩ := ih hd
      exact ⟨rfl, snk_next h1 hx (by simpa using hy) (by simpa using he)⟩
    | right => intro hd; omega
    | down => intro hd; omega
  obtain ⟨_, h1⟩ := key hr rfl
  refine Classical.byContradiction fun g => hn ?_
  have := h1.2.2 x (by omega) (by omega)
  simpa using this
/-- MYERS's step. -/
theorem fur_step {d : Nat} {k : Int} {u v s x : Nat} (_hk : -((d : Int) + 1) ≤ k ∧ k ≤ (d : Int) + 1)
    (hu : k ≠ -((d : Int) + 1) → Fur a b d (k - 1) u) (hv : k ≠ (d : Int) + 1 → Fur a b d (k + 1) v)
    (hs : s = if k = -((d : Int) + 1) ∨ (k ≠ (d : Int) + 1 ∧ u < v) then v else u + 1)
    (h : Snk a b k s x) (hn : ¬ (x < a.size ∧ ((x : Int) - k).toNat < b.size ∧ byteAt a x = byteAt b ((x : Int) - k).toNat)) : Fur a b (d + 1) k x := by
  have hks := h.2.1
  have hsx := h.1
  have hrs : Rch a b (d + 1) s ((s : Int) - k).toNat := by
    by_cases c : k = -((d : Int) + 1) ∨ (k ≠ (d : Int) + 1 ∧ u < v)
    · rw [if_pos c] at hs
      subst hs
      have hv' := hv (by omega)
      have h1 := hv'.1
      have := hv'.2.1.down
      rw [show ((s : Int) - (k + 1)).toNat + 1 = ((s : Int) - k).toNat by omega] at this
      exact this
    · rw [if_neg c] at hs
      subst hs
      have hu' := hu (fun e => c (.inl e))
      have h1 := hu'.1
      have := hu'.2.1.right
      rw [show ((u : Int) - (k - 1)).toNat = (((u + 1 : Nat) : Int) - k).toNat by omega] at this
      exact this
  refine ⟨by omega, snk_rch h hrs, fun x' y' hd hr => ?_⟩
  obtain ⟨s', h1, h2⟩ := rch_last hr
  rw [hd] at h1 h2
  have hs' : s' ≤ s := by
    have hks' := h1.2.1
    rcases h2 with ⟨t, rfl, h3⟩ | ⟨t, h4, h3⟩
    · have g := rch_side h3
      have hu' := hu (by omega)
      have := hu'.2.2 t _ (by omega) h3
      rw [hs]
      split <;> omega
    · have g := rch_side h3
      have hv' := hv (by omega)
      have := hv'.2.2 s' t (by omega) h3
      rw [hs]
      split <;> omega
  refine Classical.byContradiction fun g => hn ?_
  exact h1.2.2 x (by omega) (by omega)
/-- Where both texts end is met just then. -/
theorem hit_is {d x y : Nat} (h : Rch a b d x y) (hx : a.size ≤ x) (hy : b.size ≤ y) (hd : d ≤ D a b) : d = D a b := by
  have := rch_least h hx hy
  omega
theorem not_yet {d : Nat} (hd : d ≤ D a b) (h : ∀ k : Int, -(d : Int) ≤ k → k ≤ d → (k + d) % 2 = 0 → ∃ x, Fur a b d k x ∧ ¬ (a.size ≤ x ∧ (b.size : Int) ≤ (x : Int) - k)) : d + 1 ≤ D a b := by
  refine Classical.byContradiction fun g => ?_
  obtain rfl : d = D a b := by omega
  have hr := rch_D (a := a) (b := b)
  have hs := rch_side hr
  obtain ⟨x, hf, hn⟩ := h ((a.size : Int) - b.size) (by omega) (by omega) (by omega)
  have := hf.2.2 _ _ rfl hr
  exact hn ⟨this, by omega⟩
end
end Go.Proofs.YtjicnffafhbmbaaDoor.My
