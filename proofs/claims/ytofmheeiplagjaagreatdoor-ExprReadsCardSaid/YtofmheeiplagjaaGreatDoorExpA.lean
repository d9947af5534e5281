/-
  PROVED HERE: the document's parser of expressions, told level by level. Conditions: as each theorem states.
-/
import Derived.Test.YtofmheeiplagjaaGreatDoorTmG
namespace Go.Proofs.YtofmheeiplagjaaGreatDoor.Tm
open Go.RowKit Go.Proofs.YtofmheeiplagjaaGreatDoor.Lex Go.Proofs.YtofmheeiplagjaaGreatDoor.Dig
theorem hold_txt {σ : Ey} (h : 0 < hold (txt σ)) : txt σ ≠ emp := fun e => by rw [e, hold_emp] at h; omega
theorem loopF_fuel {E : Nat} {rec : Nat → Ey → Pr} (hr : ∀ l τ, Tm0 τ (rec l τ).2) (least : Nat) : ∀ (m m' : Nat) (x : Option Ex) (σ : Ey), σ.l.length ≤ m → σ.l.length ≤ m' → loopF E rec least m x σ = loopF E rec least m' x σ := by
  intro m
  induction m with
  | zero =>
    intro m' x σ h _
    have : σ.l = [] := List.eq_nil_of_length_eq_zero (by omega)
    rw [loopF_stop m' x (fun q => hold_txt q.2.2 (txt_nil this))]
    rfl
  | succ m ih =>
    intro m' x σ h h'
    by_cases hc : σ.c = 0 ∧ least ≤ hold (txt σ) ∧ 0 < hold (txt σ)
    · have hlt := pass_lt (E := E) (hold_txt hc.2.2)
      have h2 := (hr (hold (txt σ) + 1) (pass E σ)).2.1
      cases m' with
      | zero => omega
      | succ m' =>
        unfold loopF
        rw [if_pos hc, if_pos hc]
        exact ih _ _ _ (by omega) (by omega)
    · rw [loopF_stop _ _ hc, loopF_stop _ _ hc]
theorem loopF_congr {E : Nat} {rec rec' : Nat → Ey → Pr} (hr : ∀ l τ, Tm0 τ (rec l τ).2) (least : Nat) : ∀ (m : Nat) (x : Option Ex) (σ : Ey), (∀ l τ, τ.l.length < σ.l.length → rec l τ = rec' l τ) → loopF E rec least m x σ = loopF E rec' least m x σ := by
  intro m
  induction m with
  | zero => intro x σ _; rfl
  | succ m ih =>
    intro x σ h
    by_cases hc : σ.c = 0 ∧ least ≤ hold (txt σ) ∧ 0 < hold (txt σ)
    · have hlt := pass_lt (E := E) (hold_txt hc.2.2)
      have h2 := (hr (hold (txt σ) + 1) (pass E σ)).2.1
      unfold loopF
      rw [if_pos hc, if_pos hc]
      simp only
      rw [← h _ _ hlt]
      exact ih _ _ fun l τ ht => h l τ (by omega)
    · rw [loopF_stop _ _ hc, loopF_stop _ _ hc]
theorem loopF_end {E : Nat} {rec : Nat → Ey → Pr} (hr : ∀ l τ, Tm0 τ (rec l τ).2) (least : Nat) : ∀ (m : Nat) (x : Option Ex) (σ : Ey), σ.l.length ≤ m → ¬ ((loopF E rec least m x σ).2.c = 0 ∧ least ≤ hold (txt (loopF E rec least m x σ).2) ∧ 0 < hold (txt (loopF E rec least m x σ).2)) := by
  intro m
  induction m with
  | zero =>
    intro x σ h
    have : σ.l = [] := List.eq_nil_of_length_eq_zero (by omega)
    exact fun q => hold_txt q.2.2 (txt_nil (σ := (loopF E rec least 0 x σ).2) this)
  | succ m ih =>
    intro x σ h
    by_cases hc : σ.c = 0 ∧ least ≤ hold (txt σ) ∧ 0 < hold (txt σ)
    · have hlt := pass_lt (E := E) (hold_txt hc.2.2)
      have h2 := (hr (hold (txt σ) + 1) (pass E σ)).2.1
      have e : loopF E rec least (m + 1) x σ = loopF E rec least m (binO (pos E σ) (txt σ) x (rec (hold (txt σ) + 1) (pass E σ)).1) (rec (hold (txt σ) + 1) (pass E σ)).2 := if_pos hc
      rw [e]
      exact ih _ _ (by omega)
    · rw [loopF_stop _ _ hc]
      exact hc
theorem exprF_0 (E n deep : Nat) : ∀ l τ, Tm0 τ (exprF E n l deep τ).2 := fun l τ => expr_0 E n l deep τ
theorem single_len {E : Nat} {rec : Nat → Ey → Pr} (h : ∀ d τ, Tm0 τ (rec d τ).2) (deep : Nat) (σ : Ey) : (singleF E rec deep σ).2.l.length ≤ σ.l.length := (single_0 h deep σ).2.1
theorem single_congr {E : Nat} {rec rec' : Nat → Ey → Pr} (deep : Nat) (σ : Ey) (hs : ∀ d τ, τ.c ≠ 0 → rec d τ = rec' d τ) (h : ∀ d τ, τ.l.length < σ.l.length → rec d τ = rec' d τ) : singleF E rec deep σ = singleF E rec' deep σ := by
  unfold singleF
  by_cases hc : σ.c ≠ 0
  · rw [if_pos hc, if_pos hc]
  rw [if_neg hc, if_neg hc]
  by_cases ht : txt σ = ⟨#[40]⟩
  · rw [if_pos ht, if_pos ht]
    have hne : txt σ ≠ emp := by rw [ht]; decide
    have e : rec (deep + 1) (take E (if 8 ≤ deep then wrong σ 4 (pos E σ : Nat) else σ) ⟨#[40]⟩) = rec' (deep + 1) (take E (if 8 ≤ deep then wrong σ 4 (pos E σ : Nat) else σ) ⟨#[40]⟩) := by
      by_cases hd : 8 ≤ deep
      · rw [if_pos hd]
        have hc0 : σ.c = 0 := by simpa using hc
        have hw : (wrong σ 4 (pos E σ : Nat)).c ≠ 0 := by unfold wrong; rw [if_pos hc0]; show (4 : Int) ≠ 0; decide
        exact hs _ _ (by rw [(take_0 E _ _).2.2 hw]; exact hw)
      · rw [if_neg hd]
        refine h _ _ ?_
        unfold take
        rw [if_pos ht]
        exact pass_lt hne
    simp only [e]
  · rw [if_neg ht, if_neg ht]
theorem exprF_fuel {E : Nat} : ∀ (N m m' least deep : Nat) (σ : Ey), σ.l.length < N → σ.l.length < m → σ.l.length < m' → exprF E m least deep σ = exprF E m' least deep σ := by
  intro N
  induction N with
  | zero => intro _ _ _ _ _ h; omega
  | succ N ih =>
    intro m m' least deep σ hN hm hm'
    cases m with
    | zero => omega
    | succ m =>
    cases m' with
    | zero => omega
    | succ m' =>
    have hs : singleF E (fun d τ => exprF E m 1 d τ) deep σ = singleF E (fun d τ => exprF E m' 1 d τ) deep σ :=
      single_congr deep σ (fun d τ h => by rw [exprF_stop _ _ _ h, exprF_stop _ _ _ h]) fun d τ h => ih _ _ _ _ _ (by omega) (by omega) (by omega)
    have hl := single_len (E := E) (rec := fun d τ => exprF E m' 1 d τ) (fun d τ => expr_0 E m' 1 d τ) deep σ
    unfold exprF
    simp only [hs]
    exact loopF_congr (exprF_0 E m deep) least _ _ _ fun l τ h => ih _ _ _ _ _ (by omega) (by omega) (by omega)
/-- The ops of one level alone. -/
def exactF (E : Nat) (rec : Ey → Pr) (k : Nat) : Nat → Option Ex → Ey → Pr
  | 0, x, σ => (x, σ)
  | m + 1, x, σ =>
    if σ.c = 0 ∧ hold (txt σ) = k then
      let r := rec (pass E σ)
      exactF E rec k m (binO (pos E σ) (txt σ) x r.1) r.2
    else (x, σ)
theorem exactF_stop {E : Nat} {rec : Ey → Pr} {k : Nat} (m : Nat) (x : Option Ex) {σ : Ey} (h : ¬ (σ.c = 0 ∧ hold (txt σ) = k)) : exactF E rec k m x σ = (x, σ) := by
  cases m with
  | zero => rfl
  | succ m => unfold exactF; rw [if_neg h]
theorem loop_split {E : Nat} {rec : Nat → Ey → Pr} (hr : ∀ l τ, Tm0 τ (rec l τ).2) (k : Nat) (hk : 0 < k) (b : Nat) (hend : ∀ τ, τ.l.length < b → ¬ ((rec (k + 1) τ).2.c = 0 ∧ k + 1 ≤ hold (txt (rec (k + 1) τ).2) ∧ 0 < hold (txt (rec (k + 1) τ).2))) : ∀ (m m' : Nat) (x : Option Ex) (σ : Ey), σ.l.length ≤ b → σ.l.length ≤ m → σ.l.length ≤ m' →
    loopF E rec k m x σ = exactF E (rec (k + 1)) k m' (loopF E rec (k + 1) m x σ).1 (loopF E rec (k + 1) m x σ).2 := by
  intro m
  induction m with
  | zero =>
    intro m' x σ _ h _
    have : σ.l = [] := List.eq_nil_of_length_eq_zero (by omega)
    rw [loopF_stop 0 x (least := k) (fun q => hold_txt q.2.2 (txt_nil this)), loopF_stop 0 x (least := k + 1) (fun q => hold_txt q.2.2 (txt_nil this))]
    exact (exactF_stop _ _ (fun q => hold_txt (by omega) (txt_nil this))).symm
  | succ m ih =>
    intro m' x σ hb h h'
    by_cases hc : σ.c = 0 ∧ k ≤ hold (txt σ)
    · have h0 : 0 < hold (txt σ) := by omega
      have hlt := pass_lt (E := E) (hold_txt h0)
      have hlen : ∀ l, (rec l (pass E σ)).2.l.length ≤ (pass E σ).l.length := fun l => (hr l (pass E σ)).2.1
      have e : loopF E rec k (m + 1) x σ = loopF E rec k m (binO (pos E σ) (txt σ) x (rec (hold (txt σ) + 1) (pass E σ)).1) (rec (hold (txt σ) + 1) (pass E σ)).2 := if_pos ⟨hc.1, hc.2, h0⟩
      have hl := hlen (hold (txt σ) + 1)
      by_cases hk2 : k + 1 ≤ hold (txt σ)
      · have e2 : loopF E rec (k + 1) (m + 1) x σ = loopF E rec (k + 1) m (binO (pos E σ) (txt σ) x (rec (hold (txt σ) + 1) (pass E σ)).1) (rec (hold (txt σ) + 1) (pass E σ)).2 := if_pos ⟨hc.1, hk2, h0⟩
        rw [e, e2]
        exact ih m' _ _ (by omega) (by omega) (by omega)
      · have hke : hold (txt σ) = k := by omega
        cases m' with
        | zero => omega
        | succ m' =>
          rw [e, loopF_stop (m + 1) x (least := k + 1) (fun q => hk2 q.2.1)]
          have e3 : exactF E (rec (k + 1)) k (m' + 1) x σ = exactF E (rec (k + 1)) k m' (binO (pos E σ) (txt σ) x (rec (k + 1) (pass E σ)).1) (rec (k + 1) (pass E σ)).2 := if_pos ⟨hc.1, hke⟩
          rw [hke] at hl ⊢
          rw [e3, ih m' _ _ (by omega) (by omega) (by omega), loopF_stop m _ (least := k + 1) (hend (pass E σ) (by omega))]
    · rw [loopF_stop _ _ (least := k) (fun q => hc ⟨q.1, q.2.1⟩), loopF_stop _ _ (least := k + 1) (fun q => hc ⟨q.1, by omega⟩)]
      exact (exactF_stop _ _ (fun q => hc ⟨q.1, by omega⟩)).symm
theorem exprF_end {E n l deep : Nat} {σ : Ey} (h : σ.l.length < n) : ¬ ((exprF E n l deep σ).2.c = 0 ∧ l ≤ hold (txt (exprF E n l deep σ).2) ∧ 0 < hold (txt (exprF E n l deep σ).2)) := by
  cases n with
  | zero => omega
  | succ n => exact loopF_end (exprF_0 E n deep) l _ _ _ (Nat.le_refl _)
/-- An expression of level k: one of the next level, and the ops of level k behind. -/
theorem exprF_level {E n k deep : Nat} {σ : Ey} (hk : 0 < k) (h : σ.l.length < n) (m' : Nat) (hm : σ.l.length ≤ m') :
    exprF E n k deep σ = exactF E (fun τ => exprF E n (k + 1) deep τ) k m' (exprF E n (k + 1) deep σ).1 (exprF E n (k + 1) deep σ).2 := by
  cases n with
  | zero => omega
  | succ n =>
    have hl := single_len (E := E) (rec := fun d τ => exprF E n 1 d τ) (fun d τ => expr_0 E n 1 d τ) deep σ
    have key : ∀ l, exprF E (n + 1) l deep σ = loopF E (fun l τ => exprF E (n + 1) l deep τ) l (singleF E (fun d τ => exprF E n 1 d τ) deep σ).2.l.length (singleF E (fun d τ => exprF E n 1 d τ) deep σ).1 (singleF E (fun d τ => exprF E n 1 d τ) deep σ).2 := by
      intro l
      show loopF E (fun l τ => exprF E n l deep τ) l _ _ _ = _
      exact loopF_congr (exprF_0 E n deep) l _ _ _ fun l τ ht => exprF_fuel (τ.l.length + 1) _ _ _ _ _ (by omega) (by omega) (by omega)
    rw [key k, key (k + 1)]
    exact loop_split (rec := fun l τ => exprF E (n + 1) l deep τ) (exprF_0 E (n + 1) deep) k hk (n + 1) (fun τ ht => exprF_end ht) _ m' _ _ (by omega) (Nat.le_refl _) (by omega)
theorem exprF_top {E n deep : Nat} {σ : Ey} : exprF E (n + 1) 4 deep σ = singleF E (fun d τ => exprF E n 1 d τ) deep σ := by
  show loopF E _ 4 _ _ _ = _
  rw [loopF_stop _ _ (fun q => by have := hold_le (txt (singleF E (fun d τ => exprF E n 1 d τ) deep σ).2); omega)]
end Go.Proofs.YtofmheeiplagjaaGreatDoor.Tm
