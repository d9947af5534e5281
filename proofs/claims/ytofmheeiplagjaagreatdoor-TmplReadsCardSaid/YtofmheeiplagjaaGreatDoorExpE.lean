/-
  PROVED HERE: the document's parser of expressions, told level by level; the program's reader of tokens in memory, and the contracts of its methods; the contract of the program's expr.one, where Read is known for fewer tokens; the contract of the program's expr.one; the contract of the program's expr.level and expr.Read. Conditions: as each theorem states.
-/
import Derived.Test.YtofmheeiplagjaaGreatDoorTmG
import Derived.Test.YtofmheeiplagjaaGreatDoorErrB
import Derived.Test.YtofmheeiplagjaaGreatDoorParC
namespace Go.Proofs.YtofmheeiplagjaaGreatDoor.Tm
open Go.RowKit Go.Proofs.YtofmheeiplagjaaGreatDoor.Lex Go.Proofs.YtofmheeiplagjaaGreatDoor.Dig
theorem hold_txt {σ : Ey} (h : 0 < hold (txt σ)) : txt σ ≠ emp := fun e => by rw [e, hold_emp] at h; omega
theorem loopF_fuel {E : Nat} {rec : Nat → Ey → Pr} (hr : ∀ l τ, Tm0 τ (rec l τ).2) (least : Nat) : ∀ (m m' : Nat) (x : Option Ex) (σ : Ey), σ.l.length ≤ m → σ.l.length ≤ m' → loopF E rec least m x σ = loopF E rec least m' x σ := by
  intro m
  induction m with
  | zero =>
    intro m' x σ h _
    have : σ.l = [] := List.eq_nil_of_length_eq_zero (by omega)
    rw [loopF_stop m' x (fun q => hold_txt q.2.2 (txt_nil this))]
    rfl
  | succ m ih =>
    intro m' x σ h h'
    by_cases hc : σ.c = 0 ∧ least ≤ hold (txt σ) ∧ 0 < hold (txt σ)
    · have hlt := pass_lt (E := E) (hold_txt hc.2.2)
      have h2 := (hr (hold (txt σ) + 1) (pass E σ)).2.1
      cases m' with
      | zero => omega
      | succ m' =>
        unfold loopF
        rw [if_pos hc, if_pos hc]
        exact ih _ _ _ (by omega) (by omega)
    · rw [loopF_stop _ _ hc, loopF_stop _ _ hc]
theorem loopF_congr {E : Nat} {rec rec' : Nat → Ey → Pr} (hr : ∀ l τ, Tm0 τ (rec l τ).2) (least : Nat) : ∀ (m : Nat) (x : Option Ex) (σ : Ey), (∀ l τ, τ.l.length < σ.l.length → rec l τ = rec' l τ) → loopF E rec least m x σ = loopF E rec' least m x σ := by
  intro m
  induction m with
  | zero => intro x σ _; rfl
  | succ m ih =>
    intro x σ h
    by_cases hc : σ.c = 0 ∧ least ≤ hold (txt σ) ∧ 0 < hold (txt σ)
    · have hlt := pass_lt (E := E) (hold_txt hc.2.2)
      have h2 := (hr (hold (txt σ) + 1) (pass E σ)).2.1
      unfold loopF
      rw [if_pos hc, if_pos hc]
      simp only
      rw [← h _ _ hlt]
      exact ih _ _ fun l τ ht => h l τ (by omega)
    · rw [loopF_stop _ _ hc, loopF_stop _ _ hc]
theorem loopF_end {E : Nat} {rec : Nat → Ey → Pr} (hr : ∀ l τ, Tm0 τ (rec l τ).2) (least : Nat) : ∀ (m : Nat) (x : Option Ex) (σ : Ey), σ.l.length ≤ m → ¬ ((loopF E rec least m x σ).2.c = 0 ∧ least ≤ hold (txt (loopF E rec least m x σ).2) ∧ 0 < hold (txt (loopF E rec least m x σ).2)) := by
  intro m
  induction m with
  | zero =>
    intro x σ h
    have : σ.l = [] := List.eq_nil_of_length_eq_zero (by omega)
    exact fun q => hold_txt q.2.2 (txt_nil (σ := (loopF E rec least 0 x σ).2) this)
  | succ m ih =>
    intro x σ h
    by_cases hc : σ.c = 0 ∧ least ≤ hold (txt σ) ∧ 0 < hold (txt σ)
    · have hlt := pass_lt (E := E) (hold_txt hc.2.2)
      have h2 := (hr (hold (txt σ) + 1) (pass E σ)).2.1
      have e : loopF E rec least (m + 1) x σ = loopF E rec least m (binO (pos E σ) (txt σ) x (rec (hold (txt σ) + 1) (pass E σ)).1) (rec (hold (txt σ) + 1) (pass E σ)).2 := if_pos hc
      rw [e]
      exact ih _ _ (by omega)
    · rw [loopF_stop _ _ hc]
      exact hc
theorem exprF_0 (E n deep : Nat) : ∀ l τ, Tm0 τ (exprF E n l deep τ).2 := fun l τ => expr_0 E n l deep τ
theorem single_len {E : Nat} {rec : Nat → Ey → Pr} (h : ∀ d τ, Tm0 τ (rec d τ).2) (deep : Nat) (σ : Ey) : (singleF E rec deep σ).2.l.length ≤ σ.l.length := (single_0 h deep σ).2.1
theorem single_congr {E : Nat} {rec rec' : Nat → Ey → Pr} (deep : Nat) (σ : Ey) (hs : ∀ d τ, τ.c ≠ 0 → rec d τ = rec' d τ) (h : ∀ d τ, τ.l.length < σ.l.length → rec d τ = rec' d τ) : singleF E rec deep σ = singleF E rec' deep σ := by
  unfold singleF
  by_cases hc : σ.c ≠ 0
  · rw [if_pos hc, if_pos hc]
  rw [if_neg hc, if_neg hc]
  by_cases ht : txt σ = ⟨#[40]⟩
  · rw [if_pos ht, if_pos ht]
    have hne : txt σ ≠ emp := by rw [ht]; decide
    have e : rec (deep + 1) (take E (if 8 ≤ deep then wrong σ 4 (pos E σ : Nat) else σ) ⟨#[40]⟩) = rec' (deep + 1) (take E (if 8 ≤ deep then wrong σ 4 (pos E σ : Nat) else σ) ⟨#[40]⟩) := by
      by_cases hd : 8 ≤ deep
      · rw [if_pos hd]
        have hc0 : σ.c = 0 := by simpa using hc
        have hw : (wrong σ 4 (pos E σ : Nat)).c ≠ 0 := by unfold wrong; rw [if_pos hc0]; show (4 : Int) ≠ 0; decide
        exact hs _ _ (by rw [(take_0 E _ _).2.2 hw]; exact hw)
      · rw [if_neg hd]
        refine h _ _ ?_
        unfold take
        rw [if_pos ht]
        exact pass_lt hne
    simp only [e]
  · rw [if_neg ht, if_neg ht]
theorem exprF_fuel {E : Nat} : ∀ (N m m' least deep : Nat) (σ : Ey), σ.l.length < N → σ.l.length < m → σ.l.length < m' → exprF E m least deep σ = exprF E m' least deep σ := by
  intro N
  induction N with
  | zero => intro _ _ _ _ _ h; omega
  | succ N ih =>
    intro m m' least deep σ hN hm hm'
    cases m with
    | zero => omega
    | succ m =>
    cases m' with
    | zero => omega
    | succ m' =>
    have hs : singleF E (fun d τ => exprF E m 1 d τ) deep σ = singleF E (fun d τ => exprF E m' 1 d τ) deep σ :=
      single_congr deep σ (fun d τ h => by rw [exprF_stop _ _ _ h, exprF_stop _ _ _ h]) fun d τ h => ih _ _ _ _ _ (by omega) (by omega) (by omega)
    have hl := single_len (E := E) (rec := fun d τ => exprF E m' 1 d τ) (fun d τ => expr_0 E m' 1 d τ) deep σ
    unfold exprF
    simp only [hs]
    exact loopF_congr (exprF_0 E m deep) least _ _ _ fun l τ h => ih _ _ _ _ _ (by omega) (by omega) (by omega)
/-- The ops of one level alone. -/
def exactF (E : Nat) (rec : Ey → Pr) (k : Nat) : Nat → Option Ex → Ey → Pr
  | 0, x, σ => (x, σ)
  | m + 1, x, σ =>
    if σ.c = 0 ∧ hold (txt σ) = k then
      let r := rec (pass E σ)
      exactF E rec k m (binO (pos E σ) (txt σ) x r.1) r.2
    else (x, σ)
theorem exactF_stop {E : Nat} {rec : Ey → Pr} {k : Nat} (m : Nat) (x : Option Ex) {σ : Ey} (h : ¬ (σ.c = 0 ∧ hold (txt σ) = k)) : exactF E rec k m x σ = (x, σ) := by
  cases m with
  | zero => rfl
  | succ m => unfold exactF; rw [if_neg h]
theorem loop_split {E : Nat} {rec : Nat → Ey → Pr} (hr : ∀ l τ, Tm0 τ (rec l τ).2) (k : Nat) (hk : 0 < k) (b : Nat) (hend : ∀ τ, τ.l.length < b → ¬ ((rec (k + 1) τ).2.c = 0 ∧ k + 1 ≤ hold (txt (rec (k + 1) τ).2) ∧ 0 < hold (txt (rec (k + 1) τ).2))) : ∀ (m m' : Nat) (x : Option Ex) (σ : Ey), σ.l.length ≤ b → σ.l.length ≤ m → σ.l.length ≤ m' →
    loopF E rec k m x σ = exactF E (rec (k + 1)) k m' (loopF E rec (k + 1) m x σ).1 (loopF E rec (k + 1) m x σ).2 := by
  intro m
  induction m with
  | zero =>
    intro m' x σ _ h _
    have : σ.l = [] := List.eq_nil_of_length_eq_zero (by omega)
    rw [loopF_stop 0 x (least := k) (fun q => hold_txt q.2.2 (txt_nil this)), loopF_stop 0 x (least := k + 1) (fun q => hold_txt q.2.2 (txt_nil this))]
    exact (exactF_stop _ _ (fun q => hold_txt (by omega) (txt_nil this))).symm
  | succ m ih =>
    intro m' x σ hb h h'
    by_cases hc : σ.c = 0 ∧ k ≤ hold (txt σ)
    · have h0 : 0 < hold (txt σ) := by omega
      have hlt := pass_lt (E := E) (hold_txt h0)
      have hlen : ∀ l, (rec l (pass E σ)).2.l.length ≤ (pass E σ).l.length := fun l => (hr l (pass E σ)).2.1
      have e : loopF E rec k (m + 1) x σ = loopF E rec k m (binO (pos E σ) (txt σ) x (rec (hold (txt σ) + 1) (pass E σ)).1) (rec (hold (txt σ) + 1) (pass E σ)).2 := if_pos ⟨hc.1, hc.2, h0⟩
      have hl := hlen (hold (txt σ) + 1)
      by_cases hk2 : k + 1 ≤ hold (txt σ)
      · have e2 : loopF E rec (k + 1) (m + 1) x σ = loopF E rec (k + 1) m (binO (pos E σ) (txt σ) x (rec (hold (txt σ) + 1) (pass E σ)).1) (rec (hold (txt σ) + 1) (pass E σ)).2 := if_pos ⟨hc.1, hk2, h0⟩
        rw [e, e2]
        exact ih m' _ _ (by omega) (by omega) (by omega)
      · have hke : hold (txt σ) = k := by omega
        cases m' with
        | zero => omega
        | succ m' =>
          rw [e, loopF_stop (m + 1) x (least := k + 1) (fun q => hk2 q.2.1)]
          have e3 : exactF E (rec (k + 1)) k (m' + 1) x σ = exactF E (rec (k + 1)) k m' (binO (pos E σ) (txt σ) x (rec (k + 1) (pass E σ)).1) (rec (k + 1) (pass E σ)).2 := if_pos ⟨hc.1, hke⟩
          rw [hke] at hl ⊢
          rw [e3, ih m' _ _ (by omega) (by omega) (by omega), loopF_stop m _ (least := k + 1) (hend (pass E σ) (by omega))]
    · rw [loopF_stop _ _ (least := k) (fun q => hc ⟨q.1, q.2.1⟩), loopF_stop _ _ (least := k + 1) (fun q => hc ⟨q.1, by omega⟩)]
      exact (exactF_stop _ _ (fun q => hc ⟨q.1, by omega⟩)).symm
theorem exprF_end {E n l deep : Nat} {σ : Ey} (h : σ.l.length < n) : ¬ ((exprF E n l deep σ).2.c = 0 ∧ l ≤ hold (txt (exprF E n l deep σ).2) ∧ 0 < hold (txt (exprF E n l deep σ).2)) := by
  cases n with
  | zero => omega
  | succ n => exact loopF_end (exprF_0 E n deep) l _ _ _ (Nat.le_refl _)
/-- An expression of level k: one of the next level, and the ops of level k behind. -/
theorem exprF_level {E n k deep : Nat} {σ : Ey} (hk : 0 < k) (h : σ.l.length < n) (m' : Nat) (hm : σ.l.length ≤ m') :
    exprF E n k deep σ = exactF E (fun τ => exprF E n (k + 1) deep τ) k m' (exprF E n (k + 1) deep σ).1 (exprF E n (k + 1) deep σ).2 := by
  cases n with
  | zero => omega
  | succ n =>
    have hl := single_len (E := E) (rec := fun d τ => exprF E n 1 d τ) (fun d τ => expr_0 E n 1 d τ) deep σ
    have key : ∀ l, exprF E (n + 1) l deep σ = loopF E (fun l τ => exprF E (n + 1) l deep τ) l (singleF E (fun d τ => exprF E n 1 d τ) deep σ).2.l.length (singleF E (fun d τ => exprF E n 1 d τ) deep σ).1 (singleF E (fun d τ => exprF E n 1 d τ) deep σ).2 := by
      intro l
      show loopF E (fun l τ => exprF E n l deep τ) l _ _ _ = _
      exact loopF_congr (exprF_0 E n deep) l _ _ _ fun l τ ht => exprF_fuel (τ.l.length + 1) _ _ _ _ _ (by omega) (by omega) (by omega)
    rw [key k, key (k + 1)]
    exact loop_split (rec := fun l τ => exprF E (n + 1) l deep τ) (exprF_0 E (n + 1) deep) k hk (n + 1) (fun τ ht => exprF_end ht) _ m' _ _ (by omega) (Nat.le_refl _) (by omega)
theorem exprF_top {E n deep : Nat} {σ : Ey} : exprF E (n + 1) 4 deep σ = singleF E (fun d τ => exprF E n 1 d τ) deep σ := by
  show loopF E _ 4 _ _ _ = _
  rw [loopF_stop _ _ (fun q => by have := hold_le (txt (singleF E (fun d τ => exprF E n 1 d τ) deep σ).2); omega)]
end Go.Proofs.YtofmheeiplagjaaGreatDoor.Tm
namespace Go.Proofs.YtofmheeiplagjaaGreatDoor.Tm
open Go.RowKit Go.Proofs.YtofmheeiplagjaaGreatDoor.Lex Go.Proofs.YtofmheeiplagjaaGreatDoor.Dig
/-- The reader in the block G, at the end E of the text; nothing is wrong. -/
structure RS (G E : Nat) (lv : Value) (σ : Ey) (w : World) : Prop where
  ok : σ.c = 0
  c0 : w.cell? ⟨G, 0, none⟩ = some lv
  c1 : w.cell? ⟨G, 1, none⟩ = some (.int .i64 (E : Nat))
  fz : ∀ j, w.frozen? ⟨G, j, none⟩ = false
  tk : Tks w lv σ.l
  nb : σ.l ≠ [] → ∀ k, lv.ownBlock = some k → k < G
  lt : G < w.heap.size
theorem RS.cap {G E : Nat} {lv : Value} {σ : Ey} {w : World} (h : RS G E lv σ w) : ∃ a c, lv = .slice a σ.l.length c ∧ σ.l.length ≤ c := by
  obtain ⟨a, c, e, hl, _⟩ := h.tk
  exact ⟨a, c, e, hl⟩
theorem RS.below {G E : Nat} {lv : Value} {σ : Ey} {w w' : World} (h : RS G E lv σ w) (hb : Below w.heap.size w w') : RS G E lv σ w' :=
  ⟨h.ok, (hb.cell (p := ⟨G, 0, none⟩) h.lt).trans h.c0, (hb.cell (p := ⟨G, 1, none⟩) h.lt).trans h.c1, fun j => by
    rw [World.frozen?_of_block (a := ⟨G, j, none⟩) (hb.block G h.lt)]; exact h.fz j, tks_kept h.tk (fun hl k hk => hb.block k (tks_room h.tk hl k hk)), h.nb, Nat.lt_of_lt_of_le h.lt hb.size⟩
/-- The tokens, one less. -/
theorem RS.next {G E : Nat} {ad : Addr} {n cap : Nat} {σ : Ey} {t : Tk} {r : List Tk} {w : World} (h : RS G E (.slice (some ad) (n + 1) cap) σ w) (hl : σ.l = t :: r) (a : Option Addr) (ha : a = if cap = 1 then some ad else some ⟨ad.block, ad.off + 2, none⟩) : RS G E (.slice a n (cap - 1)) ⟨σ.c, σ.a, r⟩ (w.setCell ⟨G, 0, none⟩ (.slice a n (cap - 1))) := by
  have hs : (w.setCell ⟨G, 0, none⟩ (.slice a n (cap - 1))).heap.size = w.heap.size := by simp [World.setCell]
  have hob : (Value.slice a n (cap - 1)).ownBlock = some ad.block := by subst ha; by_cases hc : cap = 1 <;> simp [hc, Value.ownBlock]
  have hnl : ad.block < G := h.nb (by rw [hl]; simp) _ rfl
  have hnb : ad.block ≠ G := Nat.ne_of_lt hnl
  have htk : Tks w (.slice a n (cap - 1)) r := by
    obtain ⟨a', c, e, hcl, hc⟩ := h.tk
    simp only [hl] at e hcl hc
    simp only [Value.slice.injEq, List.length_cons, Nat.add_right_cancel_iff] at e
    obtain ⟨rfl, rfl, rfl⟩ := e
    rw [List.length_cons] at hcl
    refine ⟨_, _, rfl, by omega, fun j hj => ?_⟩
    rw [if_neg (by omega)] at ha
    obtain ⟨ad', h1, h2, h3⟩ := hc (j + 1) (by rw [List.length_cons]; omega)
    cases h1
    simp only [List.getElem_cons_succ] at h2 h3
    refine ⟨_, ha, ?_, ?_⟩
    · rw [add_two, show 2 + j * 2 = (j + 1) * 2 by omega]; exact h2
    · rw [add_two, show 2 + (j * 2 + 1) = (j + 1) * 2 + 1 by omega]; exact h3
  refine ⟨h.ok, World.cell?_setCell_same _ _ _ h.c0, ?_, fun j => by rw [frozen?_setCell]; exact h.fz j, ?_, fun _ k hk => by rw [hob] at hk; cases hk; exact hnl, by rw [hs]; exact h.lt⟩
  · rw [World.cell?_setCell_other _ _ _ _ (by simp)]; exact h.c1
  · refine tks_kept htk fun _ k hk => ?_
    rw [hob] at hk
    cases hk
    exact Below.heap_setCell _ _ _ _ hnb
/-- The error f was thrown by a reader. -/
def LThr (w' : World) (f : Int × Int) (e : Ending) : Prop := ∃ b, e = .panicked [{ v := .iface 110 (.agg #[.iface 76 (.pointer (some ⟨b, 0, none⟩))]), recovered := false }] ∧ w'.cell? ⟨b, 0, none⟩ = some (.int .i64 f.1) ∧ w'.cell? ⟨b, 1, none⟩ = some (.int .i64 f.2)
/-- What comes of a function on the reader: it returns, or it throws what is wrong. -/
def RdP (G E : Nat) (σ' : Ey) (r : Ending) (W : World) (e : Ending) (w' : World) : Prop :=
  W.grownBy w' (some G) ∧ ((e = r ∧ ∃ lv, RS G E lv σ' w') ∨ (σ'.c ≠ 0 ∧ LThr w' (σ'.c, σ'.a) e))
section
variable {G E : Nat} {lv : Value} {σ : Ey} {W : World}
set_option maxRecDepth 100000 in
theorem Fail_any (v : Value) (n k : Int) : Calls Tryz.prog 30 #[v, .int .i64 n, .int .i64 k] W fun e w' => LThr w' (n, k) e ∧ Below W.heap.size W w' := by
  go_enter Tryz.func30, Tryz.ntmps30
  go_wp2_with fail
  exact ⟨rfl, ⟨W.heap.size, rfl, by simp, by simp⟩, (Below.refl _ _).alloc (Nat.le_refl _) _⟩
set_option maxRecDepth 100000 in
theorem At_any (h : RS G E lv σ W) : Calls Tryz.prog 31 #[.pointer (some ⟨G, 0, none⟩)] W fun e w' => e = .returned (.int .i64 (pos E σ : Nat)) ∧ Below W.heap.size W w' := by
  have c0 := h.c0
  have c1 := h.c1
  have ht := h.tk
  obtain ⟨a, cp, rfl, -⟩ := h.cap
  clear h
  unfold pos
  cases hl : σ.l with
  | nil =>
    rw [hl] at c0 ht
    go_enter Tryz.func31, Tryz.ntmps31
    go_wp2_with fail
    go_ret
    exact ⟨rfl, Below.refl _ _⟩
  | cons t r =>
    rw [hl] at c0 ht
    obtain ⟨ad, rfl, d0, d1⟩ := ht.at_ 0 (by simp)
    simp only [List.getElem_cons_zero] at d0 d1
    rw [Nat.zero_mul, add_zero0] at d0 d1
    have n1 : ((r.length : Int) + 1 == 0) = false := by rw [beq_eq_false_iff_ne]; omega
    clear ht hl
    go_enter Tryz.func31, Tryz.ntmps31
    go_wp2_with fail
    go_ret
    exact ⟨rfl, Below.refl _ _⟩
set_option maxRecDepth 100000 in
theorem Text_any (h : RS G E lv σ W) : Calls Tryz.prog 29 #[.pointer (some ⟨G, 0, none⟩)] W fun e w' => e = .returned (.string (txt σ)) ∧ Below W.heap.size W w' := by
  have c0 := h.c0
  have ht := h.tk
  have hok := h.ok
  obtain ⟨a, cp, rfl, -⟩ := h.cap
  clear h
  cases hl : σ.l with
  | nil =>
    rw [txt_nil hl]
    rw [hl] at c0 ht
    unfold emp
    go_enter Tryz.func29, Tryz.ntmps29
    go_wp2_with fail
    go_ret
    exact ⟨rfl, Below.refl _ _⟩
  | cons t r =>
    rw [txt_cons hok hl]
    rw [hl] at c0 ht
    obtain ⟨ad, rfl, d0, d1⟩ := ht.at_ 0 (by simp)
    simp only [List.getElem_cons_zero] at d0 d1
    rw [Nat.zero_mul, add_zero0] at d0 d1
    have n1 : ((r.length : Int) + 1 == 0) = false := by rw [beq_eq_false_iff_ne]; omega
    clear ht hl
    go_enter Tryz.func29, Tryz.ntmps29
    go_wp2_with fail
    go_ret
    exact ⟨rfl, Below.refl _ _⟩
theorem pass_ok {σ : Ey} (h : txt σ ≠ emp) : pass E σ = ⟨σ.c, σ.a, σ.l.tail⟩ := if_neg h
theorem RS.some_ {t : Tk} {r : List Tk} {w : World} {a : Option Addr} {n c : Nat} (h : RS G E (.slice a n c) σ w) (hl : σ.l = t :: r) : ∃ ad, a = some ad := by
  obtain ⟨a', c', e, _, hc⟩ := h.tk
  rw [hl] at hc
  simp only [Value.slice.injEq] at e
  obtain ⟨rfl, _⟩ := e
  obtain ⟨ad, h1, _⟩ := hc 0 (by simp)
  exact ⟨ad, h1⟩
set_option maxRecDepth 100000 in
theorem Pass_any (h : RS G E lv σ W) : Calls Tryz.prog 68 #[.pointer (some ⟨G, 0, none⟩)] W (RdP G E (pass E σ) (.returned (.string (txt σ))) W) := by
  have C := Lib.hid (Text_any h)
  have HT := Lib.hid (fun w' hb => (h.below (w' := w') hb))
  by_cases he : txt σ = emp
  · have hw : pass E σ = ⟨3, (pos E σ : Nat), σ.l⟩ := by unfold pass wrong; rw [if_pos he, if_pos h.ok]
    rw [hw]
    rw [he] at C ⊢
    clear h he hw
    go_enter Tryz.func68, Tryz.ntmps68
    go_wp2_with fail
    refine (C.out).mono ?_; rintro e w1 ⟨rfl, hb⟩
    have h2 := Lib.hid (HT.out w1 hb)
    have HB := Lib.hid hb
    clear hb HT
    unfold emp
    go_wp2_with fail
    refine (At_any h2.out).mono ?_; rintro e w2 ⟨rfl, hb⟩
    have HB2 := Lib.hid (HB.out.trans (hb.mono HB.out.size))
    clear hb HB
    go_wp2_with fail
    refine (Fail_any _ _ _).mono ?_; rintro e w3 ⟨⟨b9, rfl, q0, q1⟩, hb⟩
    have HS := Lib.hid (HB2.out.trans (hb.mono HB2.out.size))
    have T9 := Lib.hid (show LThr w3 (3, (pos E σ : Nat)) _ from ⟨b9, rfl, q0, q1⟩)
    clear hb q0 q1
    go_wp2_with fail
    exact ⟨rfl, gb_below _ HS.out, .inr ⟨show (3 : Int) ≠ 0 by decide, T9.out⟩⟩
  · obtain ⟨hc, t, r, hl, ht⟩ := txt_some he
    rw [pass_ok he]
    have hs0 : 0 < (txt σ).size := by
      rcases Nat.eq_zero_or_pos (txt σ).size with e | e
      · exact absurd (emp_iff.2 e) he
      · exact e
    have t2 := str_full (txt σ) hs0
    rw [hl, List.tail_cons]
    obtain ⟨s, hs⟩ : ∃ s, txt σ = s := ⟨_, rfl⟩
    rw [hs] at C t2 ⊢
    obtain ⟨a, cp, rfl, hcp⟩ := h.cap
    rw [hl, List.length_cons] at hcp HT
    obtain ⟨n, hn⟩ : ∃ n, r.length = n := ⟨_, rfl⟩
    have HL := Lib.hid hl
    have hcp2 : n + 1 ≤ cp := by omega
    clear h he hc ht hs hs0 hl hcp
    rw [hn] at HT
    go_enter Tryz.func68, Tryz.ntmps68
    go_wp2_with fail
    refine (C.out).mono ?_; rintro e w1 ⟨rfl, hb⟩
    have h2 := Lib.hid (HT.out w1 hb)
    have HB := Lib.hid (gb_below (some G) hb)
    clear hb HT
    obtain ⟨ad, rfl⟩ := h2.out.some_ HL.out
    have c0 := h2.out.c0
    have f0 := h2.out.fz 0
    obtain ⟨A, hA⟩ : ∃ A, (if cp = 1 then some ad else some (⟨ad.block, ad.off + 2, none⟩ : Addr)) = A := ⟨_, rfl⟩
    have HN := Lib.hid (h2.out.next HL.out A hA.symm)
    go_wp2_with fail
    go_ret
    exact ⟨gb_trans HB.out gb_set, .inl ⟨rfl, _, HN.out⟩⟩
set_option maxRecDepth 100000 in
theorem Take_any (h : RS G E lv σ W) (s : ByteArray) (hs : 0 < s.size) : Calls Tryz.prog 65 #[.pointer (some ⟨G, 0, none⟩), .string s] W fun e w' => e = .returned (.bool (decide (txt σ = s))) ∧ (∃ lv', RS G E lv' (take E σ s) w') ∧ W.grownBy w' (some G) := by
  have C := Lib.hid (Text_any h)
  have HT := Lib.hid (fun w' hb => (h.below (w' := w') hb))
  unfold take
  have t2 := str_full s hs
  by_cases he : txt σ = s
  · have hne : txt σ ≠ emp := fun e => by rw [he] at e; rw [emp_iff.1 e] at hs; omega
    rw [if_pos he, decide_eq_true he, pass_ok hne]
    have e1 : ((txt σ).toList == s.toList) = true := (Go.Lib.bytes_beq_iff _ _).2 he
    obtain ⟨hc, t, r, hl, ht⟩ := txt_some hne
    rw [hl, List.tail_cons]
    obtain ⟨a, cp, rfl, hcp⟩ := h.cap
    rw [hl, List.length_cons] at hcp HT
    obtain ⟨n, hn⟩ : ∃ n, r.length = n := ⟨_, rfl⟩
    have HL := Lib.hid hl
    have hcp2 : n + 1 ≤ cp := by omega
    clear h he hc ht hs hl hcp hne
    rw [hn] at HT
    go_enter Tryz.func65, Tryz.ntmps65
    go_wp2_with fail
    refine (C.out).mono ?_; rintro e w1 ⟨rfl, hb⟩
    have h2 := Lib.hid (HT.out w1 hb)
    have HB := Lib.hid (gb_below (some G) hb)
    clear hb HT
    obtain ⟨ad, rfl⟩ := h2.out.some_ HL.out
    have c0 := h2.out.c0
    have f0 := h2.out.fz 0
    obtain ⟨A, hA⟩ : ∃ A, (if cp = 1 then some ad else some (⟨ad.block, ad.off + 2, none⟩ : Addr)) = A := ⟨_, rfl⟩
    have HN := Lib.hid (h2.out.next HL.out A hA.symm)
    go_wp2_with fail
    go_ret
    exact ⟨rfl, ⟨_, HN.out⟩, gb_trans HB.out gb_set⟩
  · rw [if_neg he, decide_eq_false he]
    have e1 : ((txt σ).toList == s.toList) = false := (Go.Lib.bytes_beq_false_iff _ _).2 he
    clear h he
    go_enter Tryz.func65, Tryz.ntmps65
    go_wp2_with fail
    refine (C.out).mono ?_; rintro e w1 ⟨rfl, hb⟩
    have h2 := Lib.hid (HT.out w1 hb)
    have HB := Lib.hid (gb_below (some G) hb)
    clear hb HT
    go_wp2_with fail
    go_ret
    exact ⟨rfl, ⟨_, h2.out⟩, HB.out⟩
set_option maxRecDepth 100000 in
theorem Must_any (h : RS G E lv σ W) (s : ByteArray) (hs : 0 < s.size) : Calls Tryz.prog 45 #[.pointer (some ⟨G, 0, none⟩), .string s] W (RdP G E (must E σ s) (.returned (.tuple #[])) W) := by
  have C := Lib.hid (Take_any h s hs)
  by_cases he : txt σ = s
  · have hm : must E σ s = take E σ s := by unfold must take; rw [if_pos he, if_pos he]
    rw [hm]
    rw [decide_eq_true he] at C
    clear h he hs hm
    go_enter Tryz.func45, Tryz.ntmps45
    go_wp2_with fail
    refine (C.out).mono ?_; rintro e w1 ⟨rfl, hs, hg⟩
    have HS := Lib.hid hs
    have HG := Lib.hid hg
    clear hs hg
    go_wp2_with fail
    go_end0
    exact ⟨HG.out, .inl ⟨rfl, HS.out⟩⟩
  · have hm : must E σ s = ⟨3, (pos E σ : Nat), σ.l⟩ := by unfold must wrong; rw [if_neg he, if_pos h.ok]
    have ht : take E σ s = σ := if_neg he
    rw [hm]
    rw [decide_eq_false he, ht] at C
    clear h he hs hm ht
    go_enter Tryz.func45, Tryz.ntmps45
    go_wp2_with fail
    refine (C.out).mono ?_; rintro e w1 ⟨rfl, ⟨lv2, hp⟩, hg⟩
    have HP := Lib.hid hp
    have HB := Lib.hid hg
    clear hp hg
    go_wp2_with fail
    refine (At_any HP.out).mono ?_; rintro e w2 ⟨rfl, hb⟩
    have HB2 := Lib.hid (gb_trans HB.out (gb_below (some G) hb))
    clear hb HB
    go_wp2_with fail
    refine (Fail_any _ _ _).mono ?_; rintro e w3 ⟨⟨b9, rfl, q0, q1⟩, hb⟩
    have HS := Lib.hid (gb_trans HB2.out (gb_below (some G) hb))
    have T9 := Lib.hid (show LThr w3 (3, (pos E σ : Nat)) _ from ⟨b9, rfl, q0, q1⟩)
    clear hb q0 q1
    go_wp2_with fail
    exact ⟨rfl, HS.out, .inr ⟨show (3 : Int) ≠ 0 by decide, T9.out⟩⟩
end
end Go.Proofs.YtofmheeiplagjaaGreatDoor.Tm
namespace Go.Proofs.YtofmheeiplagjaaGreatDoor.Tm
open Go.RowKit Go.Proofs.YtofmheeiplagjaaGreatDoor.Lex Go.Proofs.YtofmheeiplagjaaGreatDoor.Dig
/-- The ops of the program's levels. -/
def lvs : Nat → List ByteArray
  | 0 => [⟨#[61, 61]⟩, ⟨#[33, 61]⟩, ⟨#[60]⟩, ⟨#[62]⟩]
  | 1 => [⟨#[43]⟩, ⟨#[45]⟩, ⟨#[124]⟩]
  | 2 => [⟨#[42]⟩, ⟨#[38]⟩]
  | _ => []
/-- What the reader's functions need of memory, in blocks below B. -/
structure LH (B : Nat) (w : World) : Prop where
  home : Err.Home w
  hb : 2 < B
  lb : 0 < B
  lv : ∀ k, k < 3 → ∃ b o c, w.cell? ⟨0, k, none⟩ = some (.slice (some ⟨b, o, none⟩) (lvs k).length c) ∧ b < B ∧ ∀ j (hj : j < (lvs k).length), w.cell? ⟨b, o + j, none⟩ = some (.string (lvs k)[j])
theorem LH.keep {B : Nat} {w w' : World} (h : LH B w) (e : ∀ k, k < B → w'.heap[k]? = w.heap[k]?) : LH B w' := by
  refine ⟨?_, h.hb, h.lb, fun k hk => ?_⟩
  · unfold Err.Home
    rw [World.cell?_of_block (a := ⟨2, 0, none⟩) (e _ h.hb)]
    exact h.home
  · obtain ⟨b, o, c, h1, h2, h3⟩ := h.lv k hk
    refine ⟨b, o, c, ?_, h2, fun j hj => ?_⟩
    · rw [World.cell?_of_block (a := ⟨0, k, none⟩) (e _ h.lb)]; exact h1
    · rw [World.cell?_of_block (a := ⟨b, o + j, none⟩) (e _ h2)]; exact h3 j hj
theorem LH.mono_b {B B' : Nat} {w : World} (h : LH B w) (hB : B ≤ B') : LH B' w := by
  refine ⟨h.home, Nat.lt_of_lt_of_le h.hb hB, Nat.lt_of_lt_of_le h.lb hB, fun k hk => ?_⟩
  obtain ⟨b, o, c, h1, h2, h3⟩ := h.lv k hk
  exact ⟨b, o, c, h1, Nat.lt_of_lt_of_le h2 hB, h3⟩
theorem LH.grown {B G : Nat} {w w' : World} (h : LH B w) (hG : B ≤ G) (hB : B ≤ w.heap.size) (hg : w.grownBy w' (some G)) : LH B w' :=
  h.keep fun k hk => hg.block k (by omega) (fun e => by injection e; omega)
def LvP (G E : Nat) (r : Pr) (W : World) (e : Ending) (w' : World) : Prop :=
  W.grownBy w' (some G) ∧ ((∃ v x lv', e = .returned v ∧ r.1 = some x ∧ RS G E lv' r.2 w' ∧ ExF W.heap.size w' x v ∧ ∃ p, v = .pointer p) ∨ (r.2.c ≠ 0 ∧ LThr w' (r.2.c, r.2.a) e))
def RdC (n : Nat) : Prop := ∀ (B G E : Nat) (lv : Value) (σ : Ey) (W : World) (deep : Nat), RS G E lv σ W → LH B W → B ≤ G → AllT σ.l → E ≤ 4000 → deep ≤ 8 → σ.l.length < n →
  Calls Tryz.prog 28 #[.pointer (some ⟨G, 0, none⟩), .int .i64 (deep : Nat)] W (LvP G E (exprF E n 1 deep σ) W)
theorem RS.err {G E : Nat} {lv : Value} {σ : Ey} {w : World} (h : RS G E lv σ w) (e k : Int) : wrong σ e k = ⟨e, k, σ.l⟩ := if_pos h.ok
theorem must_stop {E : Nat} {σ : Ey} (h : σ.c ≠ 0) {s : ByteArray} (hs : s ≠ emp) : must E σ s = σ := by
  unfold must
  rw [txt_stop h, if_neg (fun e => hs e.symm), wrong_stop h]
theorem take_stop {E : Nat} {σ : Ey} (h : σ.c ≠ 0) {s : ByteArray} (hs : s ≠ emp) : take E σ s = σ := by
  unfold take
  rw [txt_stop h, if_neg (fun e => hs e.symm)]
section
variable {n B G E : Nat} {lv : Value} {σ : Ey} {W : World} {deep : Nat}
set_option maxRecDepth 100000 in
set_option maxHeartbeats 4000000 in
theorem one_open (IH : RdC n) (h : RS G E lv σ W) (hL : LH B W) (hBG : B ≤ G) (hA : AllT σ.l) (hE : E ≤ 4000) (hd : deep ≤ 8) (hn : σ.l.length < n + 1) (ht : txt σ = ⟨#[40]⟩) : Calls Tryz.prog 79 #[.pointer (some ⟨G, 0, none⟩), .int .i64 (deep : Nat)] W (LvP G E (singleF E (fun d τ => exprF E n 1 d τ) deep σ) W) := by
  have hGs := h.lt
  have h0 := Lib.hid h
  have HL := Lib.hid hL
  have hne : txt σ ≠ emp := by rw [ht]; exact lp_ne
  have htk : take E σ ⟨#[40]⟩ = pass E σ := if_pos ht
  have hdec : decide (txt σ = ⟨#[40]⟩) = true := decide_eq_true ht
  have hplt := pass_lt (E := E) hne
  have hpa := pass_all (E := E) hA
  by_cases h8 : deep = 8
  · have hr : singleF E (fun d τ => exprF E n 1 d τ) deep σ = (none, ⟨4, (pos E σ : Nat), σ.l⟩) := by
      unfold singleF
      have h4 : (⟨4, (pos E σ : Nat), σ.l⟩ : Ey).c ≠ 0 := show (4 : Int) ≠ 0 by decide
      rw [if_neg (by simp [h.ok]), if_pos ht, if_pos (by omega), h.err, take_stop h4 lp_ne]
      simp only [exprF_stop n 1 (deep + 1) h4, must_stop h4 rp_ne]
    rw [hr]
    subst h8
    clear hr h hL ht hn hA
    go_enter Tryz.func79, Tryz.ntmps79
    go_wp2_with fail
    refine (At_any h0.out).mono ?_; rintro e w1 ⟨rfl, hb⟩
    have h1 := Lib.hid (h0.out.below hb)
    have g1 := Lib.hid (gb_below (some G) hb)
    clear hb
    go_wp2_with fail
    refine (Take_any h1.out ⟨#[40]⟩ (by decide)).mono ?_; rintro e w2 ⟨rfl, hs, hg⟩
    rw [hdec]
    have g2 := Lib.hid (gb_trans g1.out hg)
    clear hs hg
    go_wp2_with fail
    refine (Fail_any _ _ _).mono ?_; rintro e w3 ⟨⟨b9, rfl, q0, q1⟩, hb⟩
    have HS := Lib.hid (gb_trans g2.out (gb_below (some G) hb))
    have T9 := Lib.hid (show LThr w3 (4, (pos E σ : Nat)) _ from ⟨b9, rfl, q0, q1⟩)
    clear hb q0 q1
    go_wp2_with fail
    exact ⟨rfl, HS.out, .inr ⟨show (4 : Int) ≠ 0 by decide, T9.out⟩⟩
  · have hr : singleF E (fun d τ => exprF E n 1 d τ) deep σ = ((exprF E n 1 (deep + 1) (pass E σ)).1, must E (exprF E n 1 (deep + 1) (pass E σ)).2 ⟨#[41]⟩) := by
      unfold singleF
      rw [if_neg (by simp [h.ok]), if_pos ht, if_neg (by omega), htk]
    rw [hr]
    have HI := Lib.hid (fun (W : World) (lv : Value) (h1 : RS G E lv (pass E σ) W) (h2 : LH B W) => IH B G E lv (pass E σ) W (deep + 1) h1 h2 hBG hpa hE (by omega) (by omega))
    have n8 : ((deep : Int) == 8) = false := by rw [beq_eq_false_iff_ne]; omega
    have hBs : B ≤ W.heap.size := by omega
    obtain ⟨r, hre⟩ : ∃ r, exprF E n 1 (deep + 1) (pass E σ) = r := ⟨_, rfl⟩
    rw [hre] at HI ⊢
    obtain ⟨d1, hd1⟩ : ∃ d1, deep + 1 = d1 := ⟨_, rfl⟩
    have hd2 : (deep : Int) + 1 = (d1 : Int) := by omega
    rw [hd1] at HI
    clear hr h hL ht hn hA IH hre hd1
    go_enter Tryz.func79, Tryz.ntmps79
    go_wp2_with fail
    refine (At_any h0.out).mono ?_; rintro e w1 ⟨rfl, hb⟩
    have h1 := Lib.hid (h0.out.below hb)
    have g1 := Lib.hid (gb_below (some G) hb)
    clear hb
    go_wp2_with fail
    refine (Take_any h1.out ⟨#[40]⟩ (by decide)).mono ?_; rintro e w2 ⟨rfl, ⟨lv2, hp⟩, hg⟩
    rw [hdec]
    rw [htk] at hp
    have h2 := Lib.hid hp
    have g2 := Lib.hid (gb_trans g1.out hg)
    have L2 := Lib.hid (HL.out.grown hBG hBs g2.out)
    clear hp hg
    go_wp2_with fail
    refine (HI.out w2 lv2 h2.out L2.out).mono ?_; rintro e w3 ⟨hg, hout⟩
    have g3 := Lib.hid (gb_trans g2.out hg)
    rcases hout with ⟨v, x, lv3, rfl, hx, hp, hxf, p, rfl⟩ | ⟨hc, hth⟩
    · have h3 := Lib.hid hp
      have X3 := Lib.hid hxf
      have HX := Lib.hid hx
      clear hp hxf hx hg
      go_wp2_with fail
      refine (Must_any h3.out ⟨#[41]⟩ (by decide)).mono ?_; rintro e w4 ⟨hg, hout⟩
      have g4 := Lib.hid (gb_trans g3.out hg)
      rcases hout with ⟨rfl, lv4, hp⟩ | ⟨hc, hth⟩
      · have h4 := Lib.hid hp
        have X4 := Lib.hid (ExF.grown X3.out hg (Nat.lt_of_lt_of_le hGs g2.out.size))
        clear hp hg
        go_wp2_with fail
        go_ret
        exact ⟨g4.out, .inl ⟨_, x, lv4, rfl, HX.out, h4.out, X4.out.low g2.out.size, p, rfl⟩⟩
      · have T9 := Lib.hid hth
        have C9 := Lib.hid hc
        obtain ⟨b9, rfl, q0, q1⟩ := hth
        clear hc hg q0 q1
        go_wp2_with fail
        exact ⟨rfl, g4.out, .inr ⟨C9.out, T9.out⟩⟩
    · have T9 := Lib.hid hth
      have C9 := Lib.hid hc
      obtain ⟨b9, rfl, q0, q1⟩ := hth
      clear hc hg q0 q1
      go_wp2_with fail
      refine ⟨rfl, g3.out, .inr ?_⟩
      rw [must_stop C9.out rp_ne]
      exact ⟨C9.out, T9.out⟩
end
end Go.Proofs.YtofmheeiplagjaaGreatDoor.Tm
namespace Go.Proofs.YtofmheeiplagjaaGreatDoor.Tm
open Go.RowKit Go.Proofs.YtofmheeiplagjaaGreatDoor.Lex Go.Proofs.YtofmheeiplagjaaGreatDoor.Dig
section
variable {n B G E : Nat} {lv : Value} {σ : Ey} {W : World} {deep : Nat}
theorem Pass_ok (h : RS G E lv σ W) (ht : txt σ ≠ emp) : Calls Tryz.prog 68 #[.pointer (some ⟨G, 0, none⟩)] W fun e w' => e = .returned (.string (txt σ)) ∧ (∃ lv', RS G E lv' (pass E σ) w') ∧ W.grownBy w' (some G) := by
  refine (Pass_any h).mono ?_
  rintro e w' ⟨hg, ⟨rfl, hs⟩ | ⟨hc, _⟩⟩
  · exact ⟨rfl, hs, hg⟩
  · rw [pass_ok ht] at hc
    exact absurd h.ok hc
theorem Take_no (h : RS G E lv σ W) (s : ByteArray) (hs : 0 < s.size) (ht : txt σ ≠ s) : Calls Tryz.prog 65 #[.pointer (some ⟨G, 0, none⟩), .string s] W fun e w' => e = .returned (.bool false) ∧ (∃ lv', RS G E lv' σ w') ∧ W.grownBy w' (some G) := by
  refine (Take_any h s hs).mono ?_
  rintro e w' ⟨rfl, hr, hg⟩
  rw [show take E σ s = σ from if_neg ht] at hr
  exact ⟨by rw [decide_eq_false ht], hr, hg⟩
theorem alloc_gb (w : World) (o : Obj) (G : Nat) : w.grownBy (w.alloc o) (some G) := gb_below _ ((Below.refl _ _).alloc (Nat.le_refl _) _)
set_option maxRecDepth 100000 in
set_option maxHeartbeats 4000000 in
theorem one_name (rec : Nat → Ey → Pr) (h : RS G E lv σ W) (hA : AllT σ.l) (hp : txt σ ≠ ⟨#[40]⟩) (hn : isN (txt σ) = true) : Calls Tryz.prog 79 #[.pointer (some ⟨G, 0, none⟩), .int .i64 (deep : Nat)] W (LvP G E (singleF E rec deep σ) W) := by
  have hne : txt σ ≠ emp := fun e => by have := isN_size hn; rw [emp_iff.1 e] at this; omega
  have hsl : (txt σ).size ≤ 1000 := txt_size hA
  have h0 := Lib.hid h
  have HN := Lib.hid (name_any (txt σ))
  rw [hn] at HN
  have HT := Lib.hid (fun w lv (h1 : RS G E lv σ w) => Take_no h1 ⟨#[40]⟩ (by decide) hp)
  have HP := Lib.hid (fun w lv (h1 : RS G E lv σ w) => Pass_ok h1 hne)
  have HX := Lib.hid (fun w lv (h1 : RS G E lv σ w) => Text_any h1)
  have hr : singleF E rec deep σ = (some (.nam (pos E σ) (txt σ)), pass E (if 12 < (txt σ).size then wrong σ 4 (pos E σ : Nat) else σ)) := by
    unfold singleF; rw [if_neg (by simp [h.ok]), if_neg hp, if_pos hn]
  by_cases h12 : 12 < (txt σ).size
  · rw [if_pos h12, h.err, pass_stop (show (4 : Int) ≠ 0 by decide)] at hr
    rw [hr]
    have d12 : (12 : Int) < ((txt σ).size : Int) := by omega
    obtain ⟨s, hs⟩ : ∃ s, txt σ = s := ⟨_, rfl⟩
    rw [hs] at d12 HN HP HX
    rw [hs]
    clear hr h hA hp hn hne h12 hsl hs
    go_enter Tryz.func79, Tryz.ntmps79
    go_wp2_with fail
    refine (At_any h0.out).mono ?_; rintro e w1 ⟨rfl, hb⟩
    have h1 := Lib.hid (h0.out.below hb)
    have g1 := Lib.hid (gb_below (some G) hb)
    clear hb
    go_wp2_with fail
    refine (HT.out w1 lv h1.out).mono ?_; rintro e w2 ⟨rfl, ⟨lv2, hp⟩, hg⟩
    have h2 := Lib.hid hp
    have g2 := Lib.hid (gb_trans g1.out hg)
    clear hp hg
    go_wp2_with fail
    refine (HX.out w2 lv2 h2.out).mono ?_; rintro e w3 ⟨rfl, hb⟩
    have h3 := Lib.hid (h2.out.below hb)
    have g3 := Lib.hid (gb_trans g2.out (gb_below (some G) hb))
    clear hb
    go_wp2_with fail
    refine (HN.out _).mono ?_; rintro e w4 ⟨rfl, rfl⟩
    go_wp2_with fail
    refine (HP.out w3 lv2 h3.out).mono ?_; rintro e w5 ⟨rfl, _, hg⟩
    have g5 := Lib.hid (gb_trans g3.out hg)
    clear hg
    go_wp2_with fail
    refine (Fail_any _ _ _).mono ?_; rintro e w6 ⟨⟨b9, rfl, q0, q1⟩, hb⟩
    have HS := Lib.hid (gb_trans g5.out (gb_below (some G) hb))
    have T9 := Lib.hid (show LThr w6 (4, (pos E σ : Nat)) _ from ⟨b9, rfl, q0, q1⟩)
    clear hb q0 q1
    go_wp2_with fail
    exact ⟨rfl, HS.out, .inr ⟨show (4 : Int) ≠ 0 by decide, T9.out⟩⟩
  · rw [if_neg h12] at hr
    rw [hr]
    have d12 : ¬ (12 : Int) < ((txt σ).size : Int) := by omega
    obtain ⟨s, hs⟩ : ∃ s, txt σ = s := ⟨_, rfl⟩
    rw [hs] at d12 HN HP HX
    rw [hs]
    clear hr h hA hp hn hne h12 hsl hs
    go_enter Tryz.func79, Tryz.ntmps79
    go_wp2_with fail
    refine (At_any h0.out).mono ?_; rintro e w1 ⟨rfl, hb⟩
    have h1 := Lib.hid (h0.out.below hb)
    have g1 := Lib.hid (gb_below (some G) hb)
    clear hb
    go_wp2_with fail
    refine (HT.out w1 lv h1.out).mono ?_; rintro e w2 ⟨rfl, ⟨lv2, hp⟩, hg⟩
    have h2 := Lib.hid hp
    have g2 := Lib.hid (gb_trans g1.out hg)
    clear hp hg
    go_wp2_with fail
    refine (HX.out w2 lv2 h2.out).mono ?_; rintro e w3 ⟨rfl, hb⟩
    have h3 := Lib.hid (h2.out.below hb)
    have g3 := Lib.hid (gb_trans g2.out (gb_below (some G) hb))
    clear hb
    go_wp2_with fail
    refine (HN.out _).mono ?_; rintro e w4 ⟨rfl, rfl⟩
    go_wp2_with fail
    refine (HP.out w3 lv2 h3.out).mono ?_; rintro e w5 ⟨rfl, ⟨lv5, hp⟩, hg⟩
    have h5 := Lib.hid hp
    have g5 := Lib.hid (gb_trans g3.out hg)
    clear hp hg
    go_wp2_with fail
    go_ret
    exact ⟨gb_trans g5.out (alloc_gb _ _ _), .inl ⟨_, _, lv5, rfl, rfl, h5.out.below ((Below.refl _ _).alloc (Nat.le_refl _) _), exF_nam g5.out.size _ _, _, rfl⟩⟩
theorem no_digit {s : ByteArray} (h : 0 < s.size) (hd : isD s = true) : ¬ (s[0].toNat : Int) < 48 ∧ ¬ (57 : Int) < (s[0].toNat : Int) := by
  rw [isD_at h] at hd
  unfold dgt at hd
  rw [Bool.and_eq_true, decide_eq_true_iff, decide_eq_true_iff, UInt8.le_iff_toNat_le, UInt8.le_iff_toNat_le] at hd
  have h1 : (48 : UInt8).toNat = 48 := rfl
  have h2 : (57 : UInt8).toNat = 57 := rfl
  omega
theorem is_digit {s : ByteArray} (h : 0 < s.size) (hd : isD s = false) : (s[0].toNat : Int) < 48 ∨ (¬ (s[0].toNat : Int) < 48 ∧ (57 : Int) < (s[0].toNat : Int)) := by
  rw [isD_at h] at hd
  unfold dgt at hd
  rw [Bool.and_eq_false_iff, decide_eq_false_iff_not, decide_eq_false_iff_not, UInt8.le_iff_toNat_le, UInt8.le_iff_toNat_le] at hd
  have h1 : (48 : UInt8).toNat = 48 := rfl
  have h2 : (57 : UInt8).toNat = 57 := rfl
  omega
set_option maxRecDepth 100000 in
set_option maxHeartbeats 4000000 in
theorem one_num (rec : Nat → Ey → Pr) (h : RS G E lv σ W) (hL : LH B W) (hBG : B ≤ G) (hA : AllT σ.l) (hp : txt σ ≠ ⟨#[40]⟩) (hn : isN (txt σ) = false) (hd2 : isD (txt σ) = true) : Calls Tryz.prog 79 #[.pointer (some ⟨G, 0, none⟩), .int .i64 (deep : Nat)] W (LvP G E (singleF E rec deep σ) W) := by
  have hsl : (txt σ).size ≤ 1000 := txt_size hA
  have hs0 : 0 < (txt σ).size := by
    rcases Nat.eq_zero_or_pos (txt σ).size with e | e
    · rw [isD_none (by omega)] at hd2; cases hd2
    · exact e
  have hne : txt σ ≠ emp := fun e => by rw [emp_iff.1 e] at hs0; omega
  have hBs : B ≤ W.heap.size := by have := h.lt; omega
  have h0 := Lib.hid h
  have HL := Lib.hid hL
  have HN := Lib.hid (name_any (txt σ))
  rw [hn] at HN
  have HT := Lib.hid (fun w lv (h1 : RS G E lv σ w) => Take_no h1 ⟨#[40]⟩ (by decide) hp)
  have HP := Lib.hid (fun w lv (h1 : RS G E lv σ w) => Pass_ok h1 hne)
  have HX := Lib.hid (fun w lv (h1 : RS G E lv σ w) => Text_any h1)
  have HU := Lib.hid (number_any (txt σ) hsl)
  rw [show (nv (nneg (txt σ)) (pv (nu (nt (txt σ))) (nb (nt (txt σ)))) (pe (nu (nt (txt σ))) (nb (nt (txt σ))))) = numV (txt σ) from rfl, show (ne (nneg (txt σ)) (pv (nu (nt (txt σ))) (nb (nt (txt σ)))) (pe (nu (nt (txt σ))) (nb (nt (txt σ))))) = numE (txt σ) from rfl] at HU
  have hr : singleF E rec deep σ = (some (.num (pos E σ) (numV (txt σ))), pass E (if numE (txt σ) ≠ 0 then wrong σ (numE (txt σ)) (pos E σ : Nat) else σ)) := by
    unfold singleF; rw [if_neg (by simp [h.ok]), if_neg hp, if_neg (by rw [hn]; decide), if_pos hd2]
  have t2 := str_full (txt σ) hs0
  have i0 : (0 : Int) < ((txt σ).size : Int) := by omega
  obtain ⟨n1, n2⟩ := no_digit hs0 hd2
  generalize numV (txt σ) = nV at *
  obtain ⟨nE, hnE⟩ : ∃ x, numE (txt σ) = x := ⟨_, rfl⟩
  rw [hnE] at hr HU
  by_cases h12 : nE = 0
  · rw [if_neg (by simpa using h12)] at hr
    rw [hr]
    subst h12
    rw [show ev 0 = .nilIface from rfl] at HU
    obtain ⟨s, hs⟩ : ∃ s, txt σ = s := ⟨_, rfl⟩
    simp only [hs] at HN HP HX HU t2 i0 n1 n2
    have e2 : (s.toList == []) = false := by rw [beq_eq_false_iff_ne]; intro e; rw [e] at t2; cases t2
    clear hr h hL hA hp hn hne hsl hd2 hnE
    go_enter Tryz.func79, Tryz.ntmps79
    go_wp2_with fail
    refine (At_any h0.out).mono ?_; rintro e w1 ⟨rfl, hb⟩
    have h1 := Lib.hid (h0.out.below hb)
    have g1 := Lib.hid (gb_below (some G) hb)
    clear hb
    go_wp2_with fail
    refine (HT.out w1 lv h1.out).mono ?_; rintro e w2 ⟨rfl, ⟨lv2, hp⟩, hg⟩
    have h2 := Lib.hid hp
    have g2 := Lib.hid (gb_trans g1.out hg)
    clear hp hg
    go_wp2_with fail
    refine (HX.out w2 lv2 h2.out).mono ?_; rintro e w3 ⟨rfl, hb⟩
    have h3 := Lib.hid (h2.out.below hb)
    have g3 := Lib.hid (gb_trans g2.out (gb_below (some G) hb))
    clear hb
    go_wp2_with fail
    refine (HN.out _).mono ?_; rintro e w4 ⟨rfl, rfl⟩
    go_wp2_with fail
    refine (HP.out w3 lv2 h3.out).mono ?_; rintro e w5 ⟨rfl, ⟨lv5, hp⟩, hg⟩
    have h5 := Lib.hid hp
    have g5 := Lib.hid (gb_trans g3.out hg)
    clear hp hg
    go_wp2_with fail
    refine (HU.out w5).mono ?_; rintro e w6 ⟨rfl, hb⟩
    have h6 := Lib.hid (h5.out.below hb)
    have g6 := Lib.hid (gb_trans g5.out (gb_below (some G) hb))
    clear hb
    go_wp2_with fail
    go_ret
    exact ⟨gb_trans g6.out (alloc_gb _ _ _), .inl ⟨_, _, lv5, rfl, rfl, h6.out.below ((Below.refl _ _).alloc (Nat.le_refl _) _), exF_num g6.out.size _ _, _, rfl⟩⟩
  · rw [if_pos h12, h.err, pass_stop h12] at hr
    rw [hr]
    rw [show ev nE = .iface 25 (.int .i64 nE) from if_neg h12] at HU
    have C9 := Lib.hid h12
    obtain ⟨s, hs⟩ : ∃ s, txt σ = s := ⟨_, rfl⟩
    simp only [hs] at HN HP HX HU t2 i0 n1 n2
    have e2 : (s.toList == []) = false := by rw [beq_eq_false_iff_ne]; intro e; rw [e] at t2; cases t2
    clear hr h hL hA hp hn hne hsl hd2 hnE h12
    go_enter Tryz.func79, Tryz.ntmps79
    go_wp2_with fail
    refine (At_any h0.out).mono ?_; rintro e w1 ⟨rfl, hb⟩
    have h1 := Lib.hid (h0.out.below hb)
    have g1 := Lib.hid (gb_below (some G) hb)
    clear hb
    go_wp2_with fail
    refine (HT.out w1 lv h1.out).mono ?_; rintro e w2 ⟨rfl, ⟨lv2, hp⟩, hg⟩
    have h2 := Lib.hid hp
    have g2 := Lib.hid (gb_trans g1.out hg)
    clear hp hg
    go_wp2_with fail
    refine (HX.out w2 lv2 h2.out).mono ?_; rintro e w3 ⟨rfl, hb⟩
    have h3 := Lib.hid (h2.out.below hb)
    have g3 := Lib.hid (gb_trans g2.out (gb_below (some G) hb))
    clear hb
    go_wp2_with fail
    refine (HN.out _).mono ?_; rintro e w4 ⟨rfl, rfl⟩
    go_wp2_with fail
    refine (HP.out w3 lv2 h3.out).mono ?_; rintro e w5 ⟨rfl, ⟨lv5, hp⟩, hg⟩
    have g5 := Lib.hid (gb_trans g3.out hg)
    clear hp hg
    go_wp2_with fail
    refine (HU.out w5).mono ?_; rintro e w6 ⟨rfl, hb⟩
    have g6 := Lib.hid (gb_trans g5.out (gb_below (some G) hb))
    have L6 := Lib.hid (HL.out.grown hBG hBs g6.out)
    clear hb
    go_wp2_with fail
    refine (Err.tell_errno nE w6 L6.out.home).mono ?_; rintro e w7 ⟨rfl, hb⟩
    have g7 := Lib.hid (gb_trans g6.out (gb_below (some G) hb))
    clear hb
    go_wp2_with fail
    refine (Fail_any _ _ _).mono ?_; rintro e w8 ⟨⟨b9, rfl, q0, q1⟩, hb⟩
    have HS := Lib.hid (gb_trans g7.out (gb_below (some G) hb))
    have T9 := Lib.hid (show LThr w8 (nE, (pos E σ : Nat)) _ from ⟨b9, rfl, q0, q1⟩)
    clear hb q0 q1
    go_wp2_with fail
    exact ⟨rfl, HS.out, .inr ⟨C9.out, T9.out⟩⟩
set_option maxRecDepth 100000 in
set_option maxHeartbeats 4000000 in
theorem one_bad (rec : Nat → Ey → Pr) (h : RS G E lv σ W) (hp : txt σ ≠ ⟨#[40]⟩) (hn : isN (txt σ) = false) (hd2 : isD (txt σ) = false) : Calls Tryz.prog 79 #[.pointer (some ⟨G, 0, none⟩), .int .i64 (deep : Nat)] W (LvP G E (singleF E rec deep σ) W) := by
  have h0 := Lib.hid h
  have HN := Lib.hid (name_any (txt σ))
  rw [hn] at HN
  have HT := Lib.hid (fun w lv (h1 : RS G E lv σ w) => Take_no h1 ⟨#[40]⟩ (by decide) hp)
  have HX := Lib.hid (fun w lv (h1 : RS G E lv σ w) => Text_any h1)
  have hr : singleF E rec deep σ = (none, ⟨3, (pos E σ : Nat), σ.l⟩) := by
    unfold singleF; rw [if_neg (by simp [h.ok]), if_neg hp, if_neg (by rw [hn]; decide), if_neg (by rw [hd2]; decide), h.err]
  rw [hr]
  have hcase : txt σ = ⟨#[]⟩ ∨ ∃ h : 0 < (txt σ).size, ((txt σ)[0].toNat : Int) < 48 ∨ (¬ ((txt σ)[0].toNat : Int) < 48 ∧ (57 : Int) < ((txt σ)[0].toNat : Int)) := by
    by_cases hs0 : 0 < (txt σ).size
    · exact .inr ⟨hs0, is_digit hs0 hd2⟩
    · exact .inl (emp_iff.2 (by omega))
  obtain ⟨s, hs⟩ : ∃ s, txt σ = s := ⟨_, rfl⟩
  simp only [hs] at HN HX hcase
  clear hr h hp hn hd2
  rcases hcase with rfl | ⟨hs0, n1 | ⟨n1, n2⟩⟩
  all_goals
    try (have t2 := str_full s hs0)
    try (have i0 : (0 : Int) < (s.size : Int) := by omega)
    try (have e2 : (s.toList == []) = false := by rw [beq_eq_false_iff_ne]; intro e; rw [e] at t2; cases t2)
    try clear hs0
    go_enter Tryz.func79, Tryz.ntmps79
    go_wp2_with fail
    refine (At_any h0.out).mono ?_; rintro e w1 ⟨rfl, hb⟩
    have h1 := Lib.hid (h0.out.below hb)
    have g1 := Lib.hid (gb_below (some G) hb)
    clear hb
    go_wp2_with fail
    refine (HT.out w1 lv h1.out).mono ?_; rintro e w2 ⟨rfl, ⟨lv2, hp⟩, hg⟩
    have h2 := Lib.hid hp
    have g2 := Lib.hid (gb_trans g1.out hg)
    clear hp hg
    go_wp2_with fail
    refine (HX.out w2 lv2 h2.out).mono ?_; rintro e w3 ⟨rfl, hb⟩
    have g3 := Lib.hid (gb_trans g2.out (gb_below (some G) hb))
    clear hb
    go_wp2_with fail
    refine (HN.out _).mono ?_; rintro e w4 ⟨rfl, rfl⟩
    go_wp2_with fail
    refine (Fail_any _ _ _).mono ?_; rintro e w5 ⟨⟨b9, rfl, q0, q1⟩, hb⟩
    have HS := Lib.hid (gb_trans g3.out (gb_below (some G) hb))
    have T9 := Lib.hid (show LThr w5 (3, (pos E σ : Nat)) _ from ⟨b9, rfl, q0, q1⟩)
    clear hb q0 q1
    go_wp2_with fail
    exact ⟨rfl, HS.out, .inr ⟨show (3 : Int) ≠ 0 by decide, T9.out⟩⟩
theorem expOne_any (IH : RdC n) (h : RS G E lv σ W) (hL : LH B W) (hBG : B ≤ G) (hA : AllT σ.l) (hE : E ≤ 4000) (hd : deep ≤ 8) (hn : σ.l.length < n + 1) : Calls Tryz.prog 79 #[.pointer (some ⟨G, 0, none⟩), .int .i64 (deep : Nat)] W (LvP G E (exprF E (n + 1) 4 deep σ) W) := by
  rw [exprF_top]
  by_cases hp : txt σ = ⟨#[40]⟩
  · exact one_open IH h hL hBG hA hE hd hn hp
  · cases hN : isN (txt σ)
    · cases hD : isD (txt σ)
      · exact one_bad _ h hp hN hD
      · exact one_num _ h hL hBG hA hp hN hD
    · exact one_name _ h hA hp hN
end
end Go.Proofs.YtofmheeiplagjaaGreatDoor.Tm
namespace Go.Proofs.YtofmheeiplagjaaGreatDoor.Tm
open Go.RowKit Go.Proofs.YtofmheeiplagjaaGreatDoor.Lex Go.Proofs.YtofmheeiplagjaaGreatDoor.Dig
theorem mem_lvs {k : Nat} (hk : k < 3) (s : ByteArray) : s ∈ lvs k ↔ hold s = k + 1 := by
  have hc : k = 0 ∨ k = 1 ∨ k = 2 := by omega
  unfold hold
  rcases hc with rfl | rfl | rfl
  all_goals
    simp only [lvs, List.mem_cons, List.not_mem_nil, or_false]
    constructor
    · intro h
      rcases h with rfl | rfl | rfl | rfl | rfl <;> first | rfl | (rename_i h; rcases h with rfl | rfl <;> rfl) | decide
    · intro h
      (repeat' split at h) <;> first | assumption | exact absurd h (by decide)
theorem lvs_len (k : Nat) : (lvs k).length ≤ 4 := by
  rcases k with _ | _ | _ | k <;> simp [lvs]
theorem lvs_pos {k j : Nat} (h : j < (lvs k).length) : 0 < (lvs k)[j].size := by
  have : ∀ s ∈ lvs k, 0 < s.size := by
    intro s hs
    rcases k with _ | _ | _ | k
    all_goals
      simp only [lvs, List.mem_cons, List.not_mem_nil, or_false] at hs
    · rcases hs with rfl | rfl | rfl | rfl <;> decide
    · rcases hs with rfl | rfl | rfl <;> decide
    · rcases hs with rfl | rfl <;> decide
  exact this _ (List.getElem_mem h)
def LvC (n k : Nat) : Prop := ∀ (B G E : Nat) (lv : Value) (σ : Ey) (W : World) (deep : Nat), RS G E lv σ W → LH B W → B ≤ G → AllT σ.l → E ≤ 4000 → deep ≤ 8 → σ.l.length < n →
  Calls Tryz.prog 56 #[.pointer (some ⟨G, 0, none⟩), .int .i64 (k : Nat), .int .i64 (deep : Nat)] W (LvP G E (exprF E n (k + 1) deep σ) W)
def OpR (k G E : Nat) (τ : Ey) (W : World) (i o : Value) (wr : World) : Prop := ∃ (j : Nat) (op : ByteArray) (lv : Value), i = .int .i64 j ∧ o = .string op ∧ j ≤ (lvs k).length ∧ Hid (W.grownBy wr (some G)) ∧ ((op = ⟨#[]⟩ ∧ Hid (RS G E lv τ wr) ∧ Hid (∀ s ∈ (lvs k).take j, txt τ ≠ s)) ∨ (Hid (op = txt τ) ∧ 0 < op.size ∧ Hid (txt τ ∈ lvs k) ∧ Hid (RS G E lv (pass E τ) wr)))
def LvR (G E n deep k : Nat) (R : Pr) (W : World) (v : Value) (wr : World) : Prop := ∃ (m : Nat) (x : Ex) (τ : Ey) (lv : Value) (p : Option Addr), v = .pointer p ∧ Hid (exactF E (fun τ => exprF E n (k + 1 + 1) deep τ) (k + 1) m (some x) τ = R) ∧ Hid (τ.l.length ≤ m) ∧ Hid (RS G E lv τ wr) ∧ Hid (W.grownBy wr (some G)) ∧ Hid (ExF W.heap.size wr x (.pointer p)) ∧ Hid (AllT τ.l) ∧ Hid (τ.l.length < n)
theorem lenAt_rs {G E : Nat} {lv : Value} {σ : Ey} {w : World} (h : RS G E lv σ w) : lenAt G w = σ.l.length := by
  obtain ⟨a, c, e, _⟩ := h.cap
  unfold lenAt
  rw [h.c0, e]
theorem lvR_stop {E n deep k m : Nat} {R : Pr} {x : Option Ex} {τ : Ey} (h : exactF E (fun τ => exprF E n (k + 1 + 1) deep τ) (k + 1) m x τ = R) (hn : hold (txt τ) ≠ k + 1) : R = (x, τ) := by
  rw [← h]
  exact exactF_stop _ _ (fun q => hn q.2)
theorem lvR_step {E n deep k m : Nat} {R S : Pr} {x : Ex} {τ : Ey} (h : exactF E (fun τ => exprF E n (k + 1 + 1) deep τ) (k + 1) m (some x) τ = R) (hc : τ.c = 0) (hm : τ.l.length ≤ m) (hn : hold (txt τ) = k + 1) (hS : exprF E n (k + 1 + 1) deep (pass E τ) = S) :
    ∃ m', exactF E (fun τ => exprF E n (k + 1 + 1) deep τ) (k + 1) m' (binO (pos E τ) (txt τ) (some x) S.1) S.2 = R ∧ S.2.l.length ≤ m' ∧ S.2.l.length < τ.l.length ∧ (AllT τ.l → AllT S.2.l) := by
  have hne : txt τ ≠ emp := hold_txt (by omega)
  have hlt := pass_lt (E := E) hne
  have h0 := expr_0 E n (k + 1 + 1) deep (pass E τ)
  rw [hS] at h0
  have hl := h0.2.1
  cases m with
  | zero => omega
  | succ m =>
    unfold exactF at h
    rw [if_pos ⟨hc, hn⟩] at h
    simp only [hS] at h
    exact ⟨m, h, by omega, by omega, fun hA => h0.1 (pass_all hA)⟩
section
variable {n B G E : Nat} {lv : Value} {σ : Ey} {W : World} {deep k : Nat}
set_option maxRecDepth 100000 in
set_option maxHeartbeats 4000000 in
theorem level_top (IH : RdC n) : LvC (n + 1) 3 := by
  intro B G E lv σ W deep h hL hBG hA hE hd hn
  have C := Lib.hid (expOne_any IH h hL hBG hA hE hd hn)
  clear h hL hBG hA hE hd hn IH
  obtain ⟨R, hR⟩ : ∃ R, exprF E (n + 1) 4 deep σ = R := ⟨_, rfl⟩
  rw [hR] at C
  rw [hR]
  go_enter Tryz.func56, Tryz.ntmps56
  go_wp2_with fail
  refine (C.out).mono ?_; rintro e w1 ⟨hg, ⟨v, x, lv1, rfl, hx, hp, hxf, p, rfl⟩ | ⟨hc, hth⟩⟩
  · have H := Lib.hid (show LvP G E R W (.returned (.pointer p)) w1 from ⟨hg, .inl ⟨_, x, lv1, rfl, hx, hp, hxf, p, rfl⟩⟩)
    clear hg hx hp hxf
    go_wp2_with fail
    go_ret
    exact H.out
  · have T9 := Lib.hid hth
    have C9 := Lib.hid hc
    have G9 := Lib.hid hg
    obtain ⟨b9, rfl, q0, q1⟩ := hth
    clear hc hg q0 q1
    go_wp2_with fail
    exact ⟨rfl, G9.out, .inr ⟨C9.out, T9.out⟩⟩
set_option maxRecDepth 100000 in
set_option maxHeartbeats 8000000 in
theorem level_step (hk : k < 3) (IH : LvC n (k + 1)) : LvC n k := by
  intro B G E lv σ W deep h hL hBG hA hE hd hn
  have C := Lib.hid (IH B G E lv σ W deep h hL hBG hA hE hd hn)
  have HI := Lib.hid (fun (W : World) (lv : Value) (τ : Ey) (h1 : RS G E lv τ W) (h2 : LH B W) (h3 : AllT τ.l) (h4 : τ.l.length < n) => IH B G E lv τ W deep h1 h2 hBG h3 hE hd h4)
  have HR := Lib.hid (exprF_level (E := E) (n := n) (k := k + 1) (deep := deep) (σ := σ) (Nat.succ_pos k) hn σ.l.length (Nat.le_refl _))
  obtain ⟨R, hR⟩ : ∃ R, exprF E n (k + 1) deep σ = R := ⟨_, rfl⟩
  rw [hR] at HR
  rw [hR]
  obtain ⟨S, hS⟩ : ∃ S, exprF E n (k + 1 + 1) deep σ = S := ⟨_, rfl⟩
  have H0 := expr_0 E n (k + 1 + 1) deep σ
  rw [hS] at H0 HR C
  have hGs := h.lt
  have hBs : B ≤ W.heap.size := by omega
  have HL := Lib.hid hL
  have HA := Lib.hid (H0.1 hA)
  have HN := Lib.hid (Nat.lt_of_le_of_lt H0.2.1 hn)
  have HSl := Lib.hid H0.2.1
  have n3 : ((k : Int) == 3) = false := by rw [beq_eq_false_iff_ne]; omega
  obtain ⟨k1, hk1⟩ : ∃ k1, k + 1 = k1 := ⟨_, rfl⟩
  have hk2 : (k : Int) + 1 = (k1 : Int) := by omega
  have HK1 := Lib.hid hk1
  rw [hk1] at C HI
  clear h hL hA hE hd hn IH hR hS H0 hk1
  go_enter Tryz.func56, Tryz.ntmps56
  go_wp2_with fail
  refine (C.out).mono ?_; rintro e w1 ⟨hg, ⟨v, x, lv1, rfl, hx, hp, hxf, p, rfl⟩ | ⟨hc, hth⟩⟩
  · have g1 := Lib.hid hg
    have h1 := Lib.hid hp
    have X1 := Lib.hid hxf
    have HX := Lib.hid hx
    clear hg hp hxf hx C
    go_wp2_with fail
    have HQ := Lib.hid (show exactF E (fun τ => exprF E n (k + 1 + 1) deep τ) (k + 1) σ.l.length (some x) S.2 = R by rw [← HX.out]; exact HR.out.symm)
    go_loopw [6, 7] (fun _ v wr => LvR G E n deep k R W v wr) (fun _ _ w => lenAt G w)
    case atStart => exact ⟨_, x, S.2, lv1, p, rfl, HQ, HSl, h1, g1, X1, HA, HN⟩
    case round =>
      clear HQ HSl h1 g1 X1 HA HN HX HR
      obtain ⟨m, x, τ, lv, p, rfl, hF, hm, hS, hg, hx, hA, hn⟩ := hrel
      have hBw := hg.out.size
      go_wp2_with fail
      refine (At_any hS.out).mono ?_; rintro e w2 ⟨rfl, hb⟩
      have h2 := Lib.hid (hS.out.below hb)
      have hgb := Lib.hid (gb_below (some G) hb)
      have g2 := Lib.hid (gb_trans hg.out hgb.out)
      have x2 := Lib.hid (ExF.grown hx.out hgb.out hGs)
      have L2 := Lib.hid (HL.out.grown hBG hBs g2.out)
      obtain ⟨b, o, c, q0, hbB, q1⟩ := L2.out.lv k hk
      have Q1 := Lib.hid q1
      have hbl : b < w2.heap.size := by have := g2.out.size; omega
      have i1 : (0 : Int) ≤ (k : Int) := by omega
      have i2 : (k : Int) < 3 := by omega
      clear hb hg hx q1
      go_wp2_with fail
      go_loopw [8, 28] (fun o i wr => OpR k G E τ w2 i o wr) (fun _ i _ => (lvs k).length - (intOf i).toNat)
      case atStart => exact ⟨0, ⟨#[]⟩, lv, rfl, rfl, Nat.zero_le _, Lib.hid (gb_refl _ _), .inl ⟨rfl, h2, Lib.hid (by simp)⟩⟩
      case round =>
        clear h2
        obtain ⟨j, op, lvj, rfl, rfl, hj, hgj, hcase⟩ := hrel
        by_cases hlt : j < (lvs k).length
        · have cell : wr.cell? ⟨b, o + j, none⟩ = some (.string (lvs k)[j]) := (World.cell?_of_block (a := ⟨b, o + j, none⟩) (hgj.out.block b hbl (fun e => by injection e; omega))).trans (Q1.out j hlt)
          have hpos := lvs_pos hlt
          have hl4 := lvs_len k
          have hmem : (lvs k)[j] ∈ lvs k := List.getElem_mem hlt
          have htk : (lvs k).take (j + 1) = (lvs k).take j ++ [(lvs k)[j]] := List.take_succ_eq_append_getElem hlt
          have i3 : (0 : Int) ≤ (j : Int) := by omega
          have i4 : (j : Int) < ((lvs k).length : Int) := by omega
          generalize (lvs k)[j] = s at *
          rcases hcase with ⟨rfl, hR, hno⟩ | ⟨hop, hp0, hme, hR⟩
          · by_cases ht : txt τ = s
            · have TM := Lib.hid (Take_any hR.out s hpos)
              rw [decide_eq_true ht, show take E τ s = pass E τ from if_pos ht] at TM
              have M := Lib.hid hmem
              have T := Lib.hid ht
              clear hno hmem htk ht hR
              go_wp2_with fail
              refine (TM.out).mono ?_; rintro e w3 ⟨rfl, ⟨lv3, hp⟩, hg⟩
              have h3 := Lib.hid hp
              have g3 := Lib.hid (gb_trans hgj.out hg)
              clear hp hg TM
              go_wp2_with fail
              go_roundw
              case rel => exact ⟨j + 1, s, lv3, by go_num, rfl, hlt, g3, .inr ⟨Lib.hid T.out.symm, hpos, Lib.hid (T.out ▸ M.out), h3⟩⟩
              case measure => first | (simp [intOf]; done) | (simp [intOf]; omega)
            · have TM := Lib.hid (Take_no hR.out s hpos ht)
              have N := Lib.hid (show ∀ s' ∈ (lvs k).take (j + 1), txt τ ≠ s' from fun s' hs' => by
                rw [htk, List.mem_append, List.mem_singleton] at hs'
                rcases hs' with h | rfl
                · exact hno.out _ h
                · exact ht)
              clear hno hmem htk ht hR
              go_wp2_with fail
              refine (TM.out).mono ?_; rintro e w3 ⟨rfl, ⟨lv3, hp⟩, hg⟩
              have h3 := Lib.hid hp
              have g3 := Lib.hid (gb_trans hgj.out hg)
              clear hp hg TM
              go_wp2_with fail
              go_roundw
              case rel => exact ⟨j + 1, ⟨#[]⟩, lv3, by go_num, rfl, hlt, g3, .inl ⟨rfl, h3, N⟩⟩
              case measure => first | (simp [intOf]; done) | (simp [intOf]; omega)
          · have e2 : (op.toList == []) = false := by
              have t2 := str_full op hp0
              rw [beq_eq_false_iff_ne]; intro e; rw [e] at t2; cases t2
            clear hmem htk
            go_wp2_with fail
            go_roundw
            case rel => exact ⟨j + 1, op, lvj, by go_num, rfl, hlt, hgj, .inr ⟨hop, hp0, hme, hR⟩⟩
            case measure => first | (simp [intOf]; done) | (simp [intOf]; omega)
        · have i3 : ¬ (j : Int) < ((lvs k).length : Int) := by omega
          have g4 := Lib.hid (gb_trans g2.out hgj.out)
          have x4 := Lib.hid (ExF.grown x2.out hgj.out (by have := g2.out.size; omega))
          rcases hcase with ⟨rfl, hR, hno⟩ | ⟨hop, hp0, hme, hR⟩
          · have hRS := Lib.hid (lvR_stop hF.out (fun e => by
              have := (mem_lvs hk (txt τ)).2 e
              rw [← List.take_of_length_le (show (lvs k).length ≤ j by omega)] at this
              exact hno.out _ this rfl))
            clear hno
            go_wp2_with fail
            go_ret
            refine ⟨g4.out, .inl ⟨_, x, lvj, rfl, ?_, ?_, x4.out, p, rfl⟩⟩
            · rw [hRS.out]
            · rw [hRS.out]; exact hR.out
          · have e2 : (op.toList == []) = false := by
              have t2 := str_full op hp0
              rw [beq_eq_false_iff_ne]; intro e; rw [e] at t2; cases t2
            obtain ⟨S, hS⟩ : ∃ S, exprF E n (k + 1 + 1) deep (pass E τ) = S := ⟨_, rfl⟩
            have hne : txt τ ≠ emp := hold_txt (by rw [(mem_lvs hk _).1 hme.out]; omega)
            obtain ⟨m', hF', hm', hl', hA'⟩ := lvR_step hF.out (by have := hR.out.ok; rw [pass_ok hne] at this; exact this) hm.out ((mem_lvs hk _).1 hme.out) hS
            have CI := Lib.hid (HI.out wr lvj (pass E τ) hR.out (HL.out.grown hBG hBs g4.out) (pass_all hA.out) (Nat.lt_trans (pass_lt hne) hn.out))
            rw [HK1.out] at hS
            rw [hS] at CI
            have F5 := Lib.hid hF'
            have M5 := Lib.hid hm'
            have N5 := Lib.hid (Nat.lt_trans hl' hn.out)
            have ML := Lib.hid hl'
            have A5 := Lib.hid (hA' hA.out)
            clear hF' hm' hl' hA' hS hF hm hne
            go_wp2_with fail
            refine (CI.out).mono ?_; rintro e w5 ⟨hg, ⟨v, y, lv5, rfl, hy, hp, hyf, q, rfl⟩ | ⟨hc, hth⟩⟩
            · have g5 := Lib.hid (gb_trans g4.out hg)
              have h5 := Lib.hid hp
              have y5 := Lib.hid (hyf.low g4.out.size)
              have x5 := Lib.hid (ExF.grown x4.out hg hGs)
              have F6 := Lib.hid (show exactF E (fun τ => exprF E n (k + 1 + 1) deep τ) (k + 1) m' (some (.bin (pos E τ) op x y)) S.2 = R by
                have := F5.out
                rw [hy, ← hop.out] at this
                exact this)
              clear hg hp hyf hy CI
              go_wp2_with fail
              go_roundw
              case rel => exact ⟨m', .bin (pos E τ) op x y, S.2, lv5, _, rfl, F6, M5, Lib.hid (h5.out.below ((Below.refl _ _).alloc (Nat.le_refl _) _)), Lib.hid (gb_trans g5.out (alloc_gb _ _ _)), Lib.hid (exF_bin g5.out.size (pos E τ) op x5.out y5.out), A5, N5⟩
              case measure =>
                rw [lenAt_rs (h5.out.below ((Below.refl _ _).alloc (Nat.le_refl _) _)), lenAt_rs hS.out]
                exact ML.out
            · have T9 := Lib.hid hth
              have C9 := Lib.hid hc
              have G9 := Lib.hid (gb_trans g4.out hg)
              have hRS := Lib.hid (F5.out.symm.trans (exactF_stop _ _ (fun q => hc q.1)))
              obtain ⟨b9, rfl, q0, q1⟩ := hth
              clear hc hg q0 q1 CI
              go_wp2_with fail
              refine ⟨rfl, G9.out, .inr ?_⟩
              rw [hRS.out]
              exact ⟨C9.out, T9.out⟩
  · have T9 := Lib.hid hth
    have C9 := Lib.hid hc
    have G9 := Lib.hid hg
    have hRS := Lib.hid (HR.out.trans (exactF_stop _ _ (fun q => hc q.1)))
    obtain ⟨b9, rfl, q0, q1⟩ := hth
    clear hc hg q0 q1 C
    go_wp2_with fail
    refine ⟨rfl, G9.out, .inr ?_⟩
    rw [hRS.out]
    exact ⟨C9.out, T9.out⟩
set_option maxRecDepth 100000 in
theorem read_step (IH : LvC n 0) : RdC n := by
  intro B G E lv σ W deep h hL hBG hA hE hd hn
  have C := Lib.hid (IH B G E lv σ W deep h hL hBG hA hE hd hn)
  clear h hL hBG hA hE hd hn IH
  rw [Nat.zero_add] at C
  obtain ⟨R, hR⟩ : ∃ R, exprF E n 1 deep σ = R := ⟨_, rfl⟩
  rw [hR] at C
  rw [hR]
  go_enter Tryz.func28, Tryz.ntmps28
  go_wp2_with fail
  refine (C.out).mono ?_; rintro e w1 ⟨hg, ⟨v, x, lv1, rfl, hx, hp, hxf, p, rfl⟩ | ⟨hc, hth⟩⟩
  · have H := Lib.hid (show LvP G E R W (.returned (.pointer p)) w1 from ⟨hg, .inl ⟨_, x, lv1, rfl, hx, hp, hxf, p, rfl⟩⟩)
    clear hg hx hp hxf
    go_wp2_with fail
    go_ret
    exact H.out
  · have T9 := Lib.hid hth
    have C9 := Lib.hid hc
    have G9 := Lib.hid hg
    obtain ⟨b9, rfl, q0, q1⟩ := hth
    clear hc hg q0 q1
    go_wp2_with fail
    exact ⟨rfl, G9.out, .inr ⟨C9.out, T9.out⟩⟩
/-- The contract of the program's expr.Read. -/
theorem read_all : ∀ n, RdC n
  | 0 => fun _ _ _ _ _ _ _ _ _ _ _ _ _ h => absurd h (Nat.not_lt_zero _)
  | n + 1 => read_step (level_step (k := 0) (by omega) (level_step (k := 1) (by omega) (level_step (k := 2) (by omega) (level_top (read_all n)))))
end
end Go.Proofs.YtofmheeiplagjaaGreatDoor.Tm
