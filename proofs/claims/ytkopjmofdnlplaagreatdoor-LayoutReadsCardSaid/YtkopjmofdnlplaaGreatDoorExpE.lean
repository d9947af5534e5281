/-
  PROVED HERE: the document's parser of expressions, told level by level; the program's reader of tokens in memory, and the contracts of its methods; the contract of the program's expr.one, where Read is known for fewer tokens; the contract of the program's expr.one; the contract of the program's expr.level and expr.Read. Conditions: as each theorem states.
-/
import Derived.Test.YtkopjmofdnlplaaGreatDoorTmG
import Derived.Test.YtkopjmofdnlplaaGreatDoorErrB
import Derived.Test.YtkopjmofdnlplaaGreatDoorParC
namespace Go.Proofs.YtkopjmofdnlplaaGreatDoor.Tm
open Go.RowKit Go.Proofs.YtkopjmofdnlplaaGreatDoor.Lex Go.Proofs.YtkopjmofdnlplaaGreatDoor.Dig
theorem hold_txt {σ : Ey} (h : 0 < hold (txt σ)) : txt σ ≠ emp := fun e => by rw [e, hold_emp] at h; omega
theorem loopF_fuel {E : Nat} {rec : Nat → Ey → Pr} (hr : ∀ l τ, Tm0 τ (rec l τ).2) (least : Nat) : ∀ (m m' : Nat) (x : Option Ex) (σ : Ey), σ.l.length ≤ m → σ.l.length ≤ m' → loopF E rec least m x σ = loopF E rec least m' x σ := by
  intro m
  induction m with
  | zero =>
    intro m' x σ h _
    have : σ.l = [] := List.eq_nil_of_length_eq_zero (by omega)
    rw [loopF_stop m' x (fun q => hold_txt q.2.2 (txt_nil this))]
    rfl
  | succ m ih =>
    intro m' x σ h h'
    by_cases hc : σ.c = 0 ∧ least ≤ hold (txt σ) ∧ 0 < hold (txt σ)
    · have hlt := pass_lt (E := E) (hold_txt hc.2.2)
      have h2 := (hr (hold (txt σ) + 1) (pass E σ)).2.1
      cases m' with
      | zero => omega
      | succ m' =>
        unfold loopF
        rw [if_pos hc, if_pos hc]
        exact ih _ _ _ (by omega) (by omega)
    · rw [loopF_stop _ _ hc, loopF_stop _ _ hc]
theorem loopF_congr {E : Nat} {rec rec' : Nat → Ey → Pr} (hr : ∀ l τ, Tm0 τ (rec l τ).2) (least : Nat) : ∀ (m : Nat) (x : Option Ex) (σ : Ey), (∀ l τ, τ.l.length < σ.l.length → rec l τ = rec' l τ) → loopF E rec least m x σ = loopF E rec' least m x σ := by
  intro m
  induction m with
  | zero => intro x σ _; rfl
  | succ m ih =>
    intro x σ h
    by_cases hc : σ.c = 0 ∧ least ≤ hold (txt σ) ∧ 0 < hold (txt σ)
    · have hlt := pass_lt (E := E) (hold_txt hc.2.2)
      have h2 := (hr (hold (txt σ) + 1) (pass E σ)).2.1
      unfold loopF
      rw [if_pos hc, if_pos hc]
      simp only
      rw [← h _ _ hlt]
      exact ih _ _ fun l τ ht => h l τ (by omega)
    · rw [loopF_stop _ _ hc, loopF_stop _ _ hc]
theorem loopF_end {E : Nat} {rec : Nat → Ey → Pr} (hr : ∀ l τ, Tm0 τ (rec l τ).2) (least : Nat) : ∀ (m : Nat) (x : Option Ex) (σ : Ey), σ.l.length ≤ m → ¬ ((loopF E rec least m x σ).2.c = 0 ∧ least ≤ hold (txt (loopF E rec least m x σ).2) ∧ 0 < hold (txt (loopF E rec least m x σ).2)) := by
  intro m
  induction m with
  | zero =>
    intro x σ h
    have : σ.l = [] := List.eq_nil_of_length_eq_zero (by omega)
    exact fun q => hold_txt q.2.2 (txt_nil (σ := (loopF E rec least 0 x σ).2) this)
  | succ m ih =>
    intro x σ h
    by_cases hc : σ.c = 0 ∧ least ≤ hold (txt σ) ∧ 0 < hold (txt σ)
    · have hlt := pass_lt (E := E) (hold_txt hc.2.2)
      have h2 := (hr (hold (txt σ) + 1) (pass E σ)).2.1
      have e : loopF E rec least (m + 1) x σ = loopF E rec least m (binO (pos E σ) (txt σ) x (rec (hold (txt σ) + 1) (pass E σ)).1) (rec (hold (txt σ) + 1) (pass E σ)).2 := if_pos hc
      rw [e]
      exact ih _ _ (by omega)
    · rw [loopF_stop _ _ hc]
      exact hc
theorem exprF_0 (E n deep : Nat) : ∀ l τ, Tm0 τ (exprF E n l deep τ).2 := fun l τ => expr_0 E n l deep τ
theorem single_len {E : Nat} {rec : Nat → Ey → Pr} (h : ∀ d τ, Tm0 τ (rec d τ).2) (deep : Nat) (σ : Ey) : (singleF E rec deep σ).2.l.length ≤ σ.l.length := (single_0 h deep σ).2.1
theorem single_congr {E : Nat} {rec rec' : Nat → Ey → Pr} (deep : Nat) (σ : Ey) (hs : ∀ d τ, τ.c ≠ 0 → rec d τ = rec' d τ) (h : ∀ d τ, τ.l.length < σ.l.length → rec d τ = rec' d τ) : singleF E rec deep σ = singleF E rec' deep σ := by
  unfold singleF
  by_cases hc : σ.c ≠ 0
  · rw [if_pos hc, if_pos hc]
  rw [if_neg hc, if_neg hc]
  by_cases ht : txt σ = ⟨#[40]⟩
  · rw [if_pos ht, if_pos ht]
    have hne : txt σ ≠ emp := by rw [ht]; decide
    have e : rec (deep + 1) (take E (if 8 ≤ deep then wrong σ 4 (pos E σ : Nat) else σ) ⟨#[40]⟩) = rec' (deep + 1) (take E (if 8 ≤ deep then wrong σ 4 (pos E σ : Nat) else σ) ⟨#[40]⟩) := by
      by_cases hd : 8 ≤ deep
      · rw [if_pos hd]
        have hc0 : σ.c = 0 := by simpa using hc
        have hw : (wrong σ 4 (pos E σ : Nat)).c ≠ 0 := by unfold wrong; rw [if_pos hc0]; show (4 : Int) ≠ 0; decide
        exact hs _ _ (by rw [(take_0 E _ _).2.2 hw]; exact hw)
      · rw [if_neg hd]
        refine h _ _ ?_
        unfold take
        rw [if_pos ht]
        exact pass_lt hne
    simp only [e]
  · rw [if_neg ht, if_neg ht]
theorem exprF_fuel {E : Nat} : ∀ (N m m' least deep : Nat) (σ : Ey), σ.l.length < N → σ.l.length < m → σ.l.length < m' → exprF E m least deep σ = exprF E m' least deep σ := by
  intro N
  induction N with
  | zero => intro _ _ _ _ _ h; omega
  | succ N ih =>
    intro m m' least deep σ hN hm hm'
    cases m with
    | zero => omega
    | succ m =>
    cases m' with
    | zero => omega
    | succ m' =>
    have hs : singleF E (fun d τ => exprF E m 1 d τ) deep σ = singleF E (fun d τ => exprF E m' 1 d τ) deep σ :=
      single_congr deep σ (fun d τ h => by rw [exprF_stop _ _ _ h, exprF_stop _ _ _ h]) fun d τ h => ih _ _ _ _ _ (by omega) (by omega) (by omega)
    have hl := single_len (E := E) (rec := fun d τ => exprF E m' 1 d τ) (fun d τ => expr_0 E m' 1 d τ) deep σ
    unfold exprF
    simp only [hs]
    exact loopF_congr (exprF_0 E m deep) least _ _ _ fun l τ h => ih _ _ _ _ _ (by omega) (by omega) (by omega)
/-- The ops of one level alone. -/
def exactF (E : Nat) (rec : Ey → Pr) (k : Nat) : Nat → Option Ex → Ey → Pr
  | 0, x, σ => (x, σ)
  | m + 1, x, σ =>
    if σ.c = 0 ∧ hold (txt σ) = k then
      let r := rec (pass E σ)
      exactF E rec k m (binO (pos E σ) (txt σ) x r.1) r.2
    else (x, σ)
theorem exactF_stop {E : Nat} {rec : Ey → Pr} {k : Nat} (m : Nat) (x : Option Ex) {σ : Ey} (h : ¬ (σ.c = 0 ∧ hold (txt σ) = k)) : exactF E rec k m x σ = (x, σ) := by
  cases m with
  | zero => rfl
  | succ m => unfold exactF; rw [if_neg h]
theorem loop_split {E : Nat} {rec : Nat → Ey → Pr} (hr : ∀ l τ, Tm0 τ (rec l τ).2) (k : Nat) (hk : 0 < k) (b : Nat) (hend : ∀ τ, τ.l.length < b → ¬ ((rec (k + 1) τ).2.c = 0 ∧ k + 1 ≤ hold (txt (rec (k + 1) τ).2) ∧ 0 < hold (txt (rec (k + 1) τ).2))) : ∀ (m m' : Nat) (x : Option Ex) (σ : Ey), σ.l.length ≤ b → σ.l.length ≤ m → σ.l.length ≤ m' →
    loopF E rec k m x σ = exactF E (rec (k + 1)) k m' (loopF E rec (k + 1) m x σ).1 (loopF E rec (k + 1) m x σ).2 := by
  intro m
  induction m with
  | zero =>
    intro m' x σ _ h _
    have : σ.l = [] := List.eq_nil_of_length_eq_zero (by omega)
    rw [loopF_stop 0 x (least := k) (fun q => hold_txt q.2.2 (txt_nil this)), loopF_stop 0 x (least := k + 1) (fun q => hold_txt q.2.2 (txt_nil this))]
    exact (exactF_stop _ _ (fun q => hold_txt (by omega) (txt_nil this))).symm
  | succ m ih =>
    intro m' x σ hb h h'
    by_cases hc : σ.c = 0 ∧ k ≤ hold (txt σ)
    · have h0 : 0 < hold (txt σ) := by omega
      have hlt := pass_lt (E := E) (hold_txt h0)
      have hlen : ∀ l, (rec l (pass E σ)).2.l.length ≤ (pass E σ).l.length := fun l => (hr l (pass E σ)).2.1
      have e : loopF E rec k (m + 1) x σ = loopF E rec k m (binO (pos E σ) (txt σ) x (rec (hold (txt σ) + 1) (pass E σ)).1) (rec (hold (txt σ) + 1) (pass E σ)).2 := if_pos ⟨hc.1, hc.2, h0⟩
      have hl := hlen (hold (txt σ) + 1)
      by_cases hk2 : k + 1 ≤ hold (txt σ)
      · have e2 : loopF E rec (k + 1) (m + 1) x σ = loopF E rec (k + 1) m (binO (pos E σ) (txt σ) x (rec (hold (txt σ) + 1) (pass E σ)).1) (rec (hold (txt σ) + 1) (pass E σ)).2 := if_pos ⟨hc.1, hk2, h0⟩
        rw [e, e2]
        exact ih m' _ _ (by omega) (by omega) (by omega)
      · have hke : hold (txt σ) = k := by omega
        cases m' with
        | zero => omega
        | succ m' =>
          rw [e, loopF_stop (m + 1) x (least := k + 1) (fun q => hk2 q.2.1)]
          have e3 : exactF E (rec (k + 1)) k (m' + 1) x σ = exactF E (rec (k + 1)) k m' (binO (pos E σ) (txt σ) x (rec (k + 1) (pass E σ)).1) (rec (k + 1) (pass E σ)).2 := if_pos ⟨hc.1, hke⟩
          rw [hke] at hl ⊢
          rw [e3, ih m' _ _ (by omega) (by omega) (by omega), loopF_stop m _ (least := k + 1) (hend (pass E σ) (by omega))]
    · rw [loopF_stop _ _ (least := k) (fun q => hc ⟨q.1, q.2.1⟩), loopF_stop _ _ (least := k + 1) (fun q => hc ⟨q.1, by omega⟩)]
      exact (exactF_stop _ _ (fun q => hc ⟨q.1, by omega⟩)).symm
theorem exprF_end {E n l deep : Nat} {σ : Ey} (h : σ.l.length < n) : ¬ ((exprF E n l deep σ).2.c = 0 ∧ l ≤ hold (txt (exprF E n l deep σ).2) ∧ 0 < hold (txt (exprF E n l deep σ).2)) := by
  cases n with
  | zero => omega
  | succ n => exact loopF_end (exprF_0 E n deep) l _ _ _ (Nat.le_refl _)
/-- An expression of level k: one of the next level, and the ops of level k behind. -/
theorem exprF_level {E n k deep : Nat} {σ : Ey} (hk : 0 < k) (h : σ.l.length < n) (m' : Nat) (hm : σ.l.length ≤ m') :
    exprF E n k deep σ = exactF E (fun τ => exprF E n (k + 1) deep τ) k m' (exprF E n (k + 1) deep σ).1 (exprF E n (k + 1) deep σ).2 := by
  cases n with
  | zero => omega
  | succ n =>
    have hl := single_len (E := E) (rec := fun d τ => exprF E n 1 d τ) (fun d τ => expr_0 E n 1 d τ) deep σ
    have key : ∀ l, exprF E (n + 1) l deep σ = loopF E (fun l τ => exprF E (n + 1) l deep τ) l (singleF E (fun d τ => exprF E n 1 d τ) deep σ).2.l.length (singleF E (fun d τ => exprF E n 1 d τ) deep σ).1 (singleF E (fun d τ => exprF E n 1 d τ) deep σ).2 := by
      intro l
      show loopF E (fun l τ => exprF E n l deep τ) l _ _ _ = _
      exact loopF_congr (exprF_0 E n deep) l _ _ _ fun l τ ht => exprF_fuel (τ.l.length + 1) _ _ _ _ _ (by omega) (by omega) (by omega)
    rw [key k, key (k + 1)]
    exact loop_split (rec := fun l τ => exprF E (n + 1) l deep τ) (exprF_0 E (n + 1) deep) k hk (n + 1) (fun τ ht => exprF_end ht) _ m' _ _ (by omega) (Nat.le_refl _) (by omega)
theorem exprF_top {E n deep : Nat} {σ : Ey} : exprF E (n + 1) 4 deep σ = singleF E (fun d τ => exprF E n 1 d τ) deep σ := by
  show loopF E _ 4 _ _ _ = _
  rw [loopF_stop _ _ (fun q => by have := hold_le (txt (singleF E (fun d τ => exprF E n 1 d τ) deep σ).2); omega)]
end Go.Proofs.YtkopjmofdnlplaaGreatDoor.Tm
namespace Go.Proofs.YtkopjmofdnlplaaGreatDoor.Tm
open Go.RowKit Go.Proofs.YtkopjmofdnlplaaGreatDoor.Lex Go.Proofs.YtkopjmofdnlplaaGreatDoor.Dig
/-- The reader in the block G, at the end E of the text; nothing is wrong. -/
structure RS (G E : Nat) (lv : Value) (σ : Ey) (w : World) : Prop where
  ok : σ.c = 0
  c0 : w.cell? ⟨G, 0, none⟩ = some lv
  c1 : w.cell? ⟨G, 1, none⟩ = some (.int .i64 (E : Nat))
  fz : ∀ j, w.frozen? ⟨G, j, none⟩ = false
  tk : Tks w lv σ.l
  nb : σ.l ≠ [] → ∀ k, lv.ownBlock = some k → k < G
  lt : G < w.heap.size
theorem RS.cap {G E : Nat} {lv : Value} {σ : Ey} {w : World} (h : RS G E lv σ w) : ∃ a c, lv = .slice a σ.l.length c ∧ σ.l.length ≤ c := by
  obtain ⟨a, c, e, hl, _⟩ := h.tk
  exact ⟨a, c, e, hl⟩
theorem RS.below {G E : Nat} {lv : Value} {σ : Ey} {w w' : World} (h : RS G E lv σ w) (hb : Below w.heap.size w w') : RS G E lv σ w' :=
  ⟨h.ok, (hb.cell (p := ⟨G, 0, none⟩) h.lt).trans h.c0, (hb.cell (p := ⟨G, 1, none⟩) h.lt).trans h.c1, fun j => by
    rw [World.frozen?_of_block (a := ⟨G, j, none⟩) (hb.block G h.lt)]; exact h.fz j, tks_kept h.tk (fun hl k hk => hb.block k (tks_room h.tk hl k hk)), h.nb, Nat.lt_of_lt_of_le h.lt hb.size⟩
/-- The tokens, one less. -/
theorem RS.next {G E : Nat} {ad : Addr} {n cap : Nat} {σ : Ey} {t : Tk} {r : List Tk} {w : World} (h : RS G E (.slice (some ad) (n + 1) cap) σ w) (hl : σ.l = t :: r) (a : Option Addr) (ha : a = if cap = 1 then some ad else some ⟨ad.block, ad.off + 2, none⟩) : RS G E (.slice a n (cap - 1)) ⟨σ.c, σ.a, r⟩ (w.setCell ⟨G, 0, none⟩ (.slice a n (cap - 1))) := by
  have hs : (w.setCell ⟨G, 0, none⟩ (.slice a n (cap - 1))).heap.size = w.heap.size := by simp [World.setCell]
  have hob : (Value.slice a n (cap - 1)).ownBlock = some ad.block := by subst ha; by_cases hc : cap = 1 <;> simp [hc, Value.ownBlock]
  have hnl : ad.block < G := h.nb (by rw [hl]; simp) _ rfl
  have hnb : ad.block ≠ G := Nat.ne_of_lt hnl
  have htk : Tks w (.slice a n (cap - 1)) r := by
    obtain ⟨a', c, e, hcl, hc⟩ := h.tk
    simp only [hl] at e hcl hc
    simp only [Value.slice.injEq, List.length_cons, Nat.add_right_cancel_iff] at e
    obtain ⟨rfl, rfl, rfl⟩ := e
    rw [List.length_cons] at hcl
    refine ⟨_, _, rfl, by omega, fun j hj => ?_⟩
    rw [if_neg (by omega)] at ha
    obtain ⟨ad', h1, h2, h3⟩ := hc (j + 1) (by rw [List.length_cons]; omega)
    cases h1
    simp only [List.getElem_cons_succ] at h2 h3
    refine ⟨_, ha, ?_, ?_⟩
    · rw [add_two, show 2 + j * 2 = (j + 1) * 2 by omega]; exact h2
    · rw [add_two, show 2 + (j * 2 + 1) = (j + 1) * 2 + 1 by omega]; exact h3
  refine ⟨h.ok, World.cell?_setCell_same _ _ _ h.c0, ?_, fun j => by rw [frozen?_setCell]; exact h.fz j, ?_, fun _ k hk => by rw [hob] at hk; cases hk; exact hnl, by rw [hs]; exact h.lt⟩
  · rw [World.cell?_setCell_other _ _ _ _ (by simp)]; exact h.c1
  · refine tks_kept htk fun _ k hk => ?_
    rw [hob] at hk
    cases hk
    exact Below.heap_setCell _ _ _ _ hnb
section
variable {G E : Nat} {lv : Value} {σ : Ey} {W : World}
theorem pass_ok {σ : Ey} (h : txt σ ≠ emp) : pass E σ = ⟨σ.c, σ.a, σ.l.tail⟩ := if_neg h
theorem RS.some_ {t : Tk} {r : List Tk} {w : World} {a : Option Addr} {n c : Nat} (h : RS G E (.slice a n c) σ w) (hl : σ.l = t :: r) : ∃ ad, a = some ad := by
  obtain ⟨a', c', e, _, hc⟩ := h.tk
  rw [hl] at hc
  simp only [Value.slice.injEq] at e
  obtain ⟨rfl, _⟩ := e
  obtain ⟨ad, h1, _⟩ := hc 0 (by simp)
  exact ⟨ad, h1⟩
end
end Go.Proofs.YtkopjmofdnlplaaGreatDoor.Tm
namespace Go.Proofs.YtkopjmofdnlplaaGreatDoor.Tm
open Go.RowKit Go.Proofs.YtkopjmofdnlplaaGreatDoor.Lex Go.Proofs.YtkopjmofdnlplaaGreatDoor.Dig
/-- The ops of the program's levels. -/
def lvs : Nat → List ByteArray
  | 0 => [⟨#[61, 61]⟩, ⟨#[33, 61]⟩, ⟨#[60]⟩, ⟨#[62]⟩]
  | 1 => [⟨#[43]⟩, ⟨#[45]⟩, ⟨#[124]⟩]
  | 2 => [⟨#[42]⟩, ⟨#[38]⟩]
  | _ => []
theorem RS.err {G E : Nat} {lv : Value} {σ : Ey} {w : World} (h : RS G E lv σ w) (e k : Int) : wrong σ e k = ⟨e, k, σ.l⟩ := if_pos h.ok
theorem must_stop {E : Nat} {σ : Ey} (h : σ.c ≠ 0) {s : ByteArray} (hs : s ≠ emp) : must E σ s = σ := by
  unfold must
  rw [txt_stop h, if_neg (fun e => hs e.symm), wrong_stop h]
theorem take_stop {E : Nat} {σ : Ey} (h : σ.c ≠ 0) {s : ByteArray} (hs : s ≠ emp) : take E σ s = σ := by
  unfold take
  rw [txt_stop h, if_neg (fun e => hs e.symm)]
section
variable {n B G E : Nat} {lv : Value} {σ : Ey} {W : World} {deep : Nat}
end
end Go.Proofs.YtkopjmofdnlplaaGreatDoor.Tm
namespace Go.Proofs.YtkopjmofdnlplaaGreatDoor.Tm
open Go.RowKit Go.Proofs.YtkopjmofdnlplaaGreatDoor.Lex Go.Proofs.YtkopjmofdnlplaaGreatDoor.Dig
section
variable {n B G E : Nat} {lv : Value} {σ : Ey} {W : World} {deep : Nat}
theorem alloc_gb (w : World) (o : Obj) (G : Nat) : w.grownBy (w.alloc o) (some G) := gb_below _ ((Below.refl _ _).alloc (Nat.le_refl _) _)
theorem no_digit {s : ByteArray} (h : 0 < s.size) (hd : isD s = true) : ¬ (s[0].toNat : Int) < 48 ∧ ¬ (57 : Int) < (s[0].toNat : Int) := by
  rw [isD_at h] at hd
  unfold dgt at hd
  rw [Bool.and_eq_true, decide_eq_true_iff, decide_eq_true_iff, UInt8.le_iff_toNat_le, UInt8.le_iff_toNat_le] at hd
  have h1 : (48 : UInt8).toNat = 48 := rfl
  have h2 : (57 : UInt8).toNat = 57 := rfl
  omega
theorem is_digit {s : ByteArray} (h : 0 < s.size) (hd : isD s = false) : (s[0].toNat : Int) < 48 ∨ (¬ (s[0].toNat : Int) < 48 ∧ (57 : Int) < (s[0].toNat : Int)) := by
  rw [isD_at h] at hd
  unfold dgt at hd
  rw [Bool.and_eq_false_iff, decide_eq_false_iff_not, decide_eq_false_iff_not, UInt8.le_iff_toNat_le, UInt8.le_iff_toNat_le] at hd
  have h1 : (48 : UInt8).toNat = 48 := rfl
  have h2 : (57 : UInt8).toNat = 57 := rfl
  omega
end
end Go.Proofs.YtkopjmofdnlplaaGreatDoor.Tm
namespace Go.Proofs.YtkopjmofdnlplaaGreatDoor.Tm
open Go.RowKit Go.Proofs.YtkopjmofdnlplaaGreatDoor.Lex Go.Proofs.YtkopjmofdnlplaaGreatDoor.Dig
theorem mem_lvs {k : Nat} (hk : k < 3) (s : ByteArray) : s ∈ lvs k ↔ hold s = k + 1 := by
  have hc : k = 0 ∨ k = 1 ∨ k = 2 := by omega
  unfold hold
  rcases hc with rfl | rfl | rfl
  all_goals
    simp only [lvs, List.mem_cons, List.not_mem_nil, or_false]
    constructor
    · intro h
      rcases h with rfl | rfl | rfl | rfl | rfl <;> first | rfl | (rename_i h; rcases h with rfl | rfl <;> rfl) | decide
    · intro h
      (repeat' split at h) <;> first | assumption | exact absurd h (by decide)
theorem lvs_len (k : Nat) : (lvs k).length ≤ 4 := by
  rcases k with _ | _ | _ | k <;> simp [lvs]
theorem lvs_pos {k j : Nat} (h : j < (lvs k).length) : 0 < (lvs k)[j].size := by
  have : ∀ s ∈ lvs k, 0 < s.size := by
    intro s hs
    rcases k with _ | _ | _ | k
    all_goals
      simp only [lvs, List.mem_cons, List.not_mem_nil, or_false] at hs
    · rcases hs with rfl | rfl | rfl | rfl <;> decide
    · rcases hs with rfl | rfl | rfl <;> decide
    · rcases hs with rfl | rfl <;> decide
  exact this _ (List.getElem_mem h)
def OpR (k G E : Nat) (τ : Ey) (W : World) (i o : Value) (wr : World) : Prop := ∃ (j : Nat) (op : ByteArray) (lv : Value), i = .int .i64 j ∧ o = .string op ∧ j ≤ (lvs k).length ∧ Hid (W.grownBy wr (some G)) ∧ ((op = ⟨#[]⟩ ∧ Hid (RS G E lv τ wr) ∧ Hid (∀ s ∈ (lvs k).take j, txt τ ≠ s)) ∨ (Hid (op = txt τ) ∧ 0 < op.size ∧ Hid (txt τ ∈ lvs k) ∧ Hid (RS G E lv (pass E τ) wr)))
def LvR (G E n deep k : Nat) (R : Pr) (W : World) (v : Value) (wr : World) : Prop := ∃ (m : Nat) (x : Ex) (τ : Ey) (lv : Value) (p : Option Addr), v = .pointer p ∧ Hid (exactF E (fun τ => exprF E n (k + 1 + 1) deep τ) (k + 1) m (some x) τ = R) ∧ Hid (τ.l.length ≤ m) ∧ Hid (RS G E lv τ wr) ∧ Hid (W.grownBy wr (some G)) ∧ Hid (ExF W.heap.size wr x (.pointer p)) ∧ Hid (AllT τ.l) ∧ Hid (τ.l.length < n)
theorem lenAt_rs {G E : Nat} {lv : Value} {σ : Ey} {w : World} (h : RS G E lv σ w) : lenAt G w = σ.l.length := by
  obtain ⟨a, c, e, _⟩ := h.cap
  unfold lenAt
  rw [h.c0, e]
theorem lvR_stop {E n deep k m : Nat} {R : Pr} {x : Option Ex} {τ : Ey} (h : exactF E (fun τ => exprF E n (k + 1 + 1) deep τ) (k + 1) m x τ = R) (hn : hold (txt τ) ≠ k + 1) : R = (x, τ) := by
  rw [← h]
  exact exactF_stop _ _ (fun q => hn q.2)
theorem lvR_step {E n deep k m : Nat} {R S : Pr} {x : Ex} {τ : Ey} (h : exactF E (fun τ => exprF E n (k + 1 + 1) deep τ) (k + 1) m (some x) τ = R) (hc : τ.c = 0) (hm : τ.l.length ≤ m) (hn : hold (txt τ) = k + 1) (hS : exprF E n (k + 1 + 1) deep (pass E τ) = S) :
    ∃ m', exactF E (fun τ => exprF E n (k + 1 + 1) deep τ) (k + 1) m' (binO (pos E τ) (txt τ) (some x) S.1) S.2 = R ∧ S.2.l.length ≤ m' ∧ S.2.l.length < τ.l.length ∧ (AllT τ.l → AllT S.2.l) := by
  have hne : txt τ ≠ emp := hold_txt (by omega)
  have hlt := pass_lt (E := E) hne
  have h0 := expr_0 E n (k + 1 + 1) deep (pass E τ)
  rw [hS] at h0
  have hl := h0.2.1
  cases m with
  | zero => omega
  | succ m =>
    unfold exactF at h
    rw [if_pos ⟨hc, hn⟩] at h
    simp only [hS] at h
    exact ⟨m, h, by omega, by omega, fun hA => h0.1 (pass_all hA)⟩
section
variable {n B G E : Nat} {lv : Value} {σ : Ey} {W : World} {deep k : Nat}
end
end Go.Proofs.YtkopjmofdnlplaaGreatDoor.Tm
