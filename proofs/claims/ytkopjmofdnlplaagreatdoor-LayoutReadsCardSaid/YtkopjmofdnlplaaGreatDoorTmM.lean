/-
  PROVED HERE: the contract of the document's eyes' item. Conditions: as each theorem states.
-/
import Derived.Test.YtkopjmofdnlplaaGreatDoorTmL
namespace Go.Proofs.YtkopjmofdnlplaaGreatDoor.Tm
open Go.RowKit Go.Proofs.YtkopjmofdnlplaaGreatDoor.Lex Go.Proofs.YtkopjmofdnlplaaGreatDoor.Dig
mutual
/-- How many items there are, with those within. -/
def ci : It → Nat
  | .mk _ _ _ _ _ _ _ _ _ _ _ _ its => 1 + cl its
def cl : List It → Nat
  | [] => 0
  | x :: r => ci x + cl r
end
theorem cl_snoc (l : List It) (x : It) : cl (l ++ [x]) = cl l + ci x := by
  induction l with
  | nil => simp [cl]
  | cons y r ih => rw [List.cons_append, cl, cl, ih, Nat.add_assoc]
def It.more : It → Option Ex → It
  | .mk k a n t w o s _ _ r f l i, c => .mk k a n t w o s true c r f l i
def It.ruled : It → Int → ByteArray → ByteArray → It
  | .mk k a n t w o s m c _ _ _ i, r, f, l => .mk k a n t w o s m c r f l i
def ruOf (s : ByteArray) : Int := if s = ⟨#[115, 105, 122, 101]⟩ then 1 else if s = ⟨#[99, 111, 117, 110, 116]⟩ then 2 else if s = ⟨#[99, 104, 101, 99, 107]⟩ then 3 else 0
def endF (E : Nat) (h : It × Ey) : It × Ey := (h.1, must E h.2 ⟨#[59]⟩)
def rule4F (E : Nat) (x : It) (f : ByteArray) (g : ByteArray × Ey) : It × Ey := endF E (x.ruled 3 f g.1, g.2)
def rule3F (E : Nat) (x : It) (ru : Int) (f : ByteArray × Ey) : It × Ey :=
  if ru = 3 then (if txt f.2 = ⟨#[59]⟩ then endF E (x.ruled 3 f.1 f.1, f.2) else rule4F E x f.1 (nameF E f.2)) else endF E (x.ruled ru f.1 ⟨#[]⟩, f.2)
def rule2F (E : Nat) (x : It) (ru : Int) (τ : Ey) : It × Ey := rule3F E x ru (nameF E τ)
def rulF (E : Nat) (x : It) (τ : Ey) (dd : Bool) : It × Ey :=
  match dd with
  | false => endF E (x, τ)
  | true => rule2F E x (ruOf (txt τ)) (if ruOf (txt τ) = 0 then wrong (pass E τ) 3 (pos E τ : Nat) else pass E τ)
/-- Behind an item's name. -/
def taiF (E : Nat) (h : It × Ey) : It × Ey :=
  if h.1.kind ≠ 2 ∧ txt h.2 = ⟨#[91]⟩ then endF E (h.1.more (brackF E (h.2.l.length + 1) h.2).1, (brackF E (h.2.l.length + 1) h.2).2)
  else if h.1.kind = 1 then rulF E h.1 (take E h.2 ⟨#[61]⟩) (decide (txt h.2 = ⟨#[61]⟩))
  else endF E h
def headB (E k : Nat) (n : ByteArray × Ey) : It × Ey := (.mk 2 k n.1 ⟨#[]⟩ 0 0 false false (brackF E (n.2.l.length + 1) n.2).1 0 ⟨#[]⟩ ⟨#[]⟩ [], (brackF E (n.2.l.length + 1) n.2).2)
def headN (k : Nat) (s : ByteArray) (n : ByteArray × Ey) : It × Ey := (.mk 1 k n.1 ⟨#[]⟩ (widthOf (byteAt s 1)) (if Lib.hasSuffix s.data.toList [98, 101] = true then 1 else 0) (((byteAt s 0 : Nat) : Int) == 105) false none 0 ⟨#[]⟩ ⟨#[]⟩ [], n.2)
def headT (E k : Nat) (t : ByteArray × Ey) : It × Ey := (.mk 3 k (nameF E t.2).1 t.1 0 0 false false none 0 ⟨#[]⟩ ⟨#[]⟩ [], (nameF E t.2).2)
def headF (E k : Nat) (σ : Ey) : It × Ey :=
  if txt σ = ⟨#[98, 121, 116, 101, 115]⟩ then headB E k (nameF E (pass E σ))
  else if isNumP (txt σ) = true then headN k (txt σ) (nameF E (pass E σ))
  else headT E k (nameF E σ)
def whenF (B : Nat → Ey → List It × Ey) (deep k : Nat) (r : Pr) : It × Ey := (.mk 4 k ⟨#[]⟩ ⟨#[]⟩ 0 0 false false r.1 0 ⟨#[]⟩ ⟨#[]⟩ (B (deep + 1) r.2).1, (B (deep + 1) r.2).2)
def itemK (E : Nat) (B : Nat → Ey → List It × Ey) (deep k : Nat) (σ : Ey) : It × Ey :=
  if txt σ = ⟨#[119, 104, 101, 110]⟩ then whenF B deep k (exprF E ((pass E σ).l.length + 1) 1 0 (pass E σ))
  else taiF E (headF E k σ)
/-- What the document's item makes of the tokens; B: what block makes of them. -/
def itmF (E : Nat) (B : Nat → Ey → List It × Ey) (deep : Nat) (σ : Ey) : It × Ey := itemK E B deep (pos E σ) σ
theorem taiF_many {E : Nat} {x : It} {τ : Ey} (h1 : x.kind ≠ 2) (h2 : txt τ = ⟨#[91]⟩) : taiF E (x, τ) = endF E (x.more (brackF E (τ.l.length + 1) τ).1, (brackF E (τ.l.length + 1) τ).2) := if_pos ⟨h1, h2⟩
theorem taiF_rule {E : Nat} {x : It} {τ : Ey} (h : ¬ (x.kind ≠ 2 ∧ txt τ = ⟨#[91]⟩)) (h1 : x.kind = 1) : taiF E (x, τ) = rulF E x (take E τ ⟨#[61]⟩) (decide (txt τ = ⟨#[61]⟩)) := (if_neg h).trans (if_pos h1)
theorem taiF_bare {E : Nat} {x : It} {τ : Ey} (h : ¬ (x.kind ≠ 2 ∧ txt τ = ⟨#[91]⟩)) (h1 : x.kind ≠ 1) : taiF E (x, τ) = endF E (x, τ) := (if_neg h).trans (if_neg h1)
def ItP (J : It × Ey) (G E : Nat) (σ : Ey) (W : World) (e : Ending) (w' : World) : Prop := ∃ (τ : Ey) (x : It) (p : Option Addr) (iv : Value), e = .returned (.agg (itVals x (.pointer p) iv).toArray) ∧ StP G E τ W w' ∧ Tm0 σ τ ∧ (∃ a m c, iv = .slice a m c) ∧ (τ.c = 0 → ci x + τ.l.length ≤ σ.l.length ∧ WfI x ∧ ItF W.heap.size w' x (.pointer p) iv) ∧ J = (x, τ)
def BkP (J : List It × Ey) (G E : Nat) (σ : Ey) (W : World) (e : Ending) (w' : World) : Prop := ∃ (τ : Ey) (l : List It) (v : Value), e = .returned v ∧ StP G E τ W w' ∧ Tm0 σ τ ∧ (∃ a m c, v = .slice a m c) ∧ (τ.c = 0 → cl l + τ.l.length < σ.l.length ∧ l.length ≤ 16 ∧ WfL l ∧ ItsF W.heap.size w' l v) ∧ J = (l, τ)
/-- What each contract of the eyes asks. -/
structure Pre (G E : Nat) (lv : Value) (σ : Ey) (W : World) : Prop where
  ps : PS G E lv σ W
  at_ : AllT σ.l
  hE : E ≤ 4000
  mx : Mx W
  ml : 1 < W.heap.size
  gm : G ≠ 1
  few : σ.l.length ≤ 4000
def BlockC (n : Nat) (Bf : Nat → Nat → Ey → List It × Ey) : Prop := ∀ (G E : Nat) (lv : Value) (σ : Ey) (W : World) (deep : Nat), Pre G E lv σ W → deep ≤ 9 → (σ.c = 0 → σ.l.length < n) → Calls Tryz.prog 69 #[.pointer (some ⟨G, 0, none⟩), .int .i64 (deep : Nat)] W (BkP (Bf E deep σ) G E σ W)
theorem name_lt {E : Nat} {σ : Ey} (h : (nameF E σ).2.c = 0) : (nameF E σ).2.l.length < σ.l.length := by
  unfold nameF at h ⊢
  simp only at h ⊢
  by_cases h1 : noName (txt σ) = true
  · rw [if_pos h1, pass_stop (wrong_bad _ _ _ (by decide))] at h
    exact absurd h (wrong_bad _ _ _ (by decide))
  · rw [if_neg h1] at h ⊢
    by_cases h2 : 12 < (txt σ).size
    · rw [if_pos h2, pass_stop (wrong_bad _ _ _ (by decide))] at h
      exact absurd h (wrong_bad _ _ _ (by decide))
    · rw [if_neg h2]
      refine pass_lt fun e => h1 ?_
      rw [e]
      decide
theorem name_sz {E : Nat} {σ : Ey} (h : AllT σ.l) : (nameF E σ).1.size ≤ 1000 := txt_size h
/-- An item behind its name, but for brackets and a rule. -/
structure Hd (k : Nat) (x : It) : Prop where
  kind : x.kind = 1 ∨ x.kind = 2 ∨ x.kind = 3
  place : x.at_ = k
  names : x.name.size ≤ 1000 ∧ x.type.size ≤ 1000
  wide : x.kind = 1 → x.width = 1 ∨ x.width = 2 ∨ x.width = 4 ∨ x.width = 8
  ord : x.order = 0 ∨ x.order = 1
  rest : x.many = false ∧ x.rule = 0 ∧ x.first = ⟨#[]⟩ ∧ x.last = ⟨#[]⟩ ∧ x.items = []
/-- Behind the item's head. -/
def HdR (J : It × Ey) (σ : Ey) (W : World) (G E X k : Nat) (wx : World) : Prop := ∃ (lv : Value) (τ : Ey) (x : It) (p : Option Addr), Hid (IS W G E W.heap.size X lv τ (itVals x (.pointer p) (.slice none 0 0)) wx) ∧ Hid (Tm0 σ τ) ∧ Hid (τ.c = 0 → τ.l.length < σ.l.length) ∧ Hid (Hd k x) ∧ Hid (x.kind ≠ 2 → x.count = none ∧ p = none) ∧ Hid (τ.c = 0 → Lv x.count) ∧ Hid (x.kind = 2 → τ.c = 0 → ∃ e, x.count = some e ∧ ExF (X + 1) wx e (.pointer p)) ∧ Hid (J = taiF E (x, τ))
theorem ExF.set {X j : Nat} {w : World} {x : Ex} {v u : Value} (h : ExF (X + 1) w x v) : ExF (X + 1) (w.setCell ⟨X, j, none⟩ u) x v :=
  Fw.later h (by simp [World.setCell]) fun k h1 _ => Below.heap_setCell _ _ _ _ (show k ≠ X by omega)
theorem RQ.itF {W : World} {G E R X : Nat} {lv : Value} {τ : Ey} {rs : List Value} {w8 w9 : World} (Q : RQ W G E R lv τ rs w8 w9) (hX : R ≤ X) {x : It} {cv iv : Value} (h : ItF (X + 1) w8 x cv iv) : ItF R w9 x cv iv :=
  fun w2 hk => h w2 fun k h1 h2 => (hk k (by omega) (by rw [Q.size]; exact h2)).trans (Q.keep k (by omega))
theorem itF_mk {lo : Nat} {w : World} {x : It} {cv iv : Value} (hc : Fw lo w fun w2 => CtAt w2 x.count cv) (hi : ItsF lo w x.items iv) : ItF lo w x cv iv := fun w2 hk => (itAt_iff _ _ _ _).2 ⟨hc w2 hk, hi w2 hk⟩
theorem itsF_nil (lo : Nat) (w : World) : ItsF lo w [] (.slice none 0 0) := fun _ _ => ⟨none, 0, rfl, Nat.le_refl _, trivial⟩
theorem ctF_none (lo : Nat) (w : World) : Fw lo w fun w2 => CtAt w2 none (.pointer none) := fun _ _ => rfl
theorem ctF_some {lo : Nat} {w : World} {e : Ex} {v : Value} (h : ExF lo w e v) : Fw lo w fun w2 => CtAt w2 (some e) v := fun w2 hk => h w2 hk
theorem Fw.setX {X j : Nat} {w : World} {P : World → Prop} {u : Value} (h : Fw (X + 1) w P) : Fw (X + 1) (w.setCell ⟨X, j, none⟩ u) P :=
  Fw.later h (by simp [World.setCell]) fun k h1 _ => Below.heap_setCell _ _ _ _ (show k ≠ X by omega)
theorem wf_of {kd wd od : Int} {k : Nat} {nm tp : ByteArray} {sg : Bool} {ct0 : Option Ex} (h : Hd k (.mk kd k nm tp wd od sg false ct0 0 ⟨#[]⟩ ⟨#[]⟩ [])) (hk : k ≤ 4000) {mn : Bool} {ct : Option Ex} {ru : Int} {fi la : ByteArray}
    (hr : 0 ≤ ru ∧ ru ≤ 3) (hr2 : ru ≠ 0 → kd = 1 ∧ mn = false) (hf : fi.size ≤ 1000) (hl : la.size ≤ 1000) (hc : kd = 2 ∨ mn = true → ct ≠ none) (hc2 : kd ≠ 2 → mn = false → ct = none) (hz : Lv ct) : WfI (.mk kd k nm tp wd od sg mn ct ru fi la []) := by
  have hkd : kd = 1 ∨ kd = 2 ∨ kd = 3 := h.kind
  refine (wfI_iff _).2 ⟨⟨?_, hr, hr2, h.wide, h.ord, ⟨h.names.1, h.names.2, hf, hl⟩, ?_, ?_, fun _ => rfl, hk, Nat.zero_le _, hz⟩, trivial⟩
  · show 1 ≤ kd ∧ kd ≤ 4
    omega
  · show kd = 2 ∨ kd = 4 ∨ mn = true → ct ≠ none
    rintro (h1 | h1 | h1)
    · exact hc (.inl h1)
    · omega
    · exact hc (.inr h1)
  · show (kd = 1 ∨ kd = 3) ∧ mn = false → ct = none
    rintro ⟨h1, h2⟩
    exact hc2 (by omega) h2
theorem wf_when {k : Nat} {e : Ex} {l : List It} (hk : k ≤ 4000) (hl : l.length ≤ 16) (hw : WfL l) (hz : Lv (some e)) : WfI (.mk 4 k ⟨#[]⟩ ⟨#[]⟩ 0 0 false false (some e) 0 ⟨#[]⟩ ⟨#[]⟩ l) :=
  (wfI_iff _).2 ⟨⟨show (1 : Int) ≤ 4 ∧ (4 : Int) ≤ 4 by decide, show (0 : Int) ≤ 0 ∧ (0 : Int) ≤ 3 by decide, fun h => absurd rfl h, fun h => absurd h (show ¬ (4 : Int) = 1 by decide), .inl rfl, ⟨Nat.zero_le _, Nat.zero_le _, Nat.zero_le _, Nat.zero_le _⟩, fun _ => by simp [It.count], fun h => absurd h.1 (show ¬ ((4 : Int) = 1 ∨ (4 : Int) = 3) by decide), fun h => absurd rfl h, hk, hl, hz⟩, hw⟩
/-- Ahead of the last ";". -/
def TlR (J : It × Ey) (σ : Ey) (W : World) (G E X : Nat) (wx : World) : Prop := ∃ (lv : Value) (τ : Ey) (x : It) (p : Option Addr), Hid (IS W G E W.heap.size X lv τ (itVals x (.pointer p) (.slice none 0 0)) wx) ∧ Hid (Tm0 σ τ) ∧ Hid (τ.c = 0 → τ.l.length < σ.l.length) ∧ Hid (τ.c = 0 → WfI x ∧ Fw (X + 1) wx fun w2 => CtAt w2 x.count (.pointer p)) ∧ Hid (x.items = []) ∧ Hid (J = endF E (x, τ))
set_option maxRecDepth 100000 in
theorem item_results (tmps : Array Value) (w : World) (R : Nat) (v0 v1 v2 v3 v4 v5 v6 v7 v8 v9 v10 v11 v12 : Value) (h4 : tmps.getD 4 undef = .pointer (some ⟨R, 0, none⟩)) (hb : IB w R [v0, v1, v2, v3, v4, v5, v6, v7, v8, v9, v10, v11, v12]) :
    (results Tryz.f112 tmps).run Tryz.prog w = .ok (.agg #[v0, v1, v2, v3, v4, v5, v6, v7, v8, v9, v10, v11, v12]) w := by
  have h4' : tmps[4]?.getD undef = .pointer (some ⟨R, 0, none⟩) := by simpa using h4
  have c0 : w.cell? ⟨R, 0, none⟩ = some v0 := hb.cell 0
  have c1 : w.cell? ⟨R, 1, none⟩ = some v1 := hb.cell 1
  have c2 : w.cell? ⟨R, 2, none⟩ = some v2 := hb.cell 2
  have c3 : w.cell? ⟨R, 3, none⟩ = some v3 := hb.cell 3
  have c4 : w.cell? ⟨R, 4, none⟩ = some v4 := hb.cell 4
  have c5 : w.cell? ⟨R, 5, none⟩ = some v5 := hb.cell 5
  have c6 : w.cell? ⟨R, 6, none⟩ = some v6 := hb.cell 6
  have c7 : w.cell? ⟨R, 7, none⟩ = some v7 := hb.cell 7
  have c8 : w.cell? ⟨R, 8, none⟩ = some v8 := hb.cell 8
  have c9 : w.cell? ⟨R, 9, none⟩ = some v9 := hb.cell 9
  have c10 : w.cell? ⟨R, 10, none⟩ = some v10 := hb.cell 10
  have c11 : w.cell? ⟨R, 11, none⟩ = some v11 := hb.cell 11
  have c12 : w.cell? ⟨R, 12, none⟩ = some v12 := hb.cell 12
  simp only [results, Tryz.f112]
  simp [go_sem, h4', c0, c1, c2, c3, c4, c5, c6, c7, c8, c9, c10, c11, c12]
section
variable {n G E : Nat} {lv : Value} {σ : Ey} {W : World} {deep : Nat}
set_option maxRecDepth 100000 in
set_option maxHeartbeats 4000000 in
theorem item_any {Bf : Nat → Nat → Ey → List It × Ey} (IH : BlockC n Bf) (P : Pre G E lv σ W) (hd : deep ≤ 8) (_hc : σ.c = 0) (hn : σ.l.length < n + 1) : Calls Tryz.prog 112 #[.pointer (some ⟨G, 0, none⟩), .int .i64 (deep : Nat)] W (ItP (itmF E (Bf E) deep σ) G E σ W) := by
  have HP := Lib.hid P
  have hE := P.hE
  have hpl := pos_le hE P.at_
  have HI := Lib.hid IH
  have hG := P.ps.lt
  have h0 := Lib.hid (P.ps.below ((Below.refl W.heap.size W).alloc (Nat.le_refl _) (.cells zero13.toArray 78)))
  obtain ⟨J, hJ⟩ : ∃ J, itmF E (Bf E) deep σ = J := ⟨_, rfl⟩
  rw [hJ]
  have HJ := Lib.hid hJ
  clear P IH hJ
  go_enter Tryz.func112, Tryz.ntmps112
  go_wp2_with fail
  have hW : (W.alloc (.cells zero13.toArray 78)) = _ := rfl
  obtain ⟨wa, hwa⟩ : ∃ wa, wa = W.alloc (.cells zero13.toArray 78) := ⟨_, rfl⟩
  rw [← hwa] at h0
  have ga := Lib.hid (show W.grownBy wa (some G) by rw [hwa]; exact gb_below _ ((Below.refl _ _).alloc (Nat.le_refl _) _))
  have ra := Lib.hid (show IB wa W.heap.size zero13 by rw [hwa]; exact IB.new _ _)
  have la := Lib.hid (show wa.heap.size = W.heap.size + 1 by rw [hwa]; simp)
  have HC := Lib.hid (place_any h0.out)
  rw [hwa] at HC
  refine (HC.out).mono ?_; rintro e w1 ⟨rfl, hb⟩
  rw [← hwa] at hb
  clear hW hwa HC
  have h1 := Lib.hid (h0.out.below hb)
  have g1 := Lib.hid (gb_trans ga.out (gb_below (some G) hb))
  have r1 := Lib.hid (ra.out.grown (gb_below (some G) hb) (by omega))
  have l1 := Lib.hid (Nat.le_trans (Nat.le_of_eq la.out.symm) hb.size)
  clear hb h0 ga ra la
  obtain ⟨k, hk⟩ : ∃ k, pos E σ = k := ⟨_, rfl⟩
  have HJ := Lib.hid (show J = itemK E (Bf E) deep k σ by rw [← hk]; exact HJ.out.symm)
  rw [hk] at hpl ⊢
  clear hk
  go_upto_region 2 with fail
  obtain ⟨w2, hw2⟩ : ∃ w2, w2 = w1.alloc (.cells (itVals (x0 k) (.pointer none) (.slice none 0 0)).toArray 78) := ⟨_, rfl⟩
  have S2 := Lib.hid (show IS W G E W.heap.size w1.heap.size lv σ (itVals (x0 k) (.pointer none) (.slice none 0 0)) w2 from by
    have hb2 := (Below.refl w1.heap.size w1).alloc (Nat.le_refl _) (.cells (itVals (x0 k) (.pointer none) (.slice none 0 0)).toArray 78)
    have l := l1.out
    rw [hw2]
    exact ⟨h1.out.below hb2, gb_trans g1.out (gb_below _ hb2), IB.new _ _, r1.out.alloc _, by omega, Nat.le_refl _, by omega, hG, HP.out.mx.grown (gb_trans g1.out (gb_below _ hb2)) HP.out.gm, HP.out.ml, HP.out.gm⟩)
  rw [show w1.alloc (Obj.cells #[Value.int .i64 0, .int .i64 (k : Nat), .string ⟨#[]⟩, .string ⟨#[]⟩, .int .i64 0, .int .i64 0, .bool false, .bool false, .pointer none, .int .i64 0, .string ⟨#[]⟩, .string ⟨#[]⟩, .slice none 0 0] 78) = w2 from hw2.symm]
  clear hw2 h1 g1 r1
  generalize w1.heap.size = X at *
  obtain ⟨s, hs⟩ : ∃ s, txt σ = s := ⟨_, rfl⟩
  go_wp2_with fail
  refine (text_any S2.out.ps).mono ?_; rintro e w3 ⟨rfl, hb⟩
  rw [hs]
  have S3 := Lib.hid (S2.out.below hb)
  clear hb S2
  go_upto_block 0 with fail
  go_cut [] (fun wx => HdR J σ W G E X k wx)
  case first =>
    have hsl : s.size ≤ 1000 := by rw [← hs]; exact txt_size HP.out.at_
    have HA := Lib.hid HP.out.at_
    by_cases c1 : s = ⟨#[119, 104, 101, 110]⟩
    · have hse : txt σ ≠ emp := by rw [hs, c1]; decide
      have e1 : (s.toList == [119, 104, 101, 110]) = true := tl_yes (a := #[119, 104, 101, 110]) c1
      have HS := Lib.hid hs
      have HJ := Lib.hid (show J = whenF (Bf E) deep k (exprF E ((pass E σ).l.length + 1) 1 0 (pass E σ)) from HJ.out.trans (if_pos (hs.trans c1)))
      clear c1 hs
      go_wp2_with fail
      refine (pass_any S3.out.ps).mono ?_; rintro e w4 ⟨rfl, hst⟩
      obtain ⟨lv4, hn4⟩ := S3.out.step hst
      have S4 := Lib.hid hn4
      have T4 := Lib.hid (pass_0 E σ)
      have L4 := Lib.hid (pass_lt (E := E) (σ := σ) hse)
      have A4 := Lib.hid (T4.out.1 HA.out)
      generalize pass E σ = τ4 at *
      clear hst hn4
      have HX := Lib.hid (expr_ok (τ4.l.length + 1) G E lv4 τ4 w4 1 0 S4.out.ps A4.out hE (by omega) (fun _ => ⟨by omega, Nat.lt_succ_self _⟩) (by omega))
      have hT := expr_0 E (τ4.l.length + 1) 1 0 τ4
      have hZ := expr_sz E (τ4.l.length + 1) 1 0 τ4
      have hK := expr_okk hE (τ4.l.length + 1) 1 0 τ4 A4.out
      obtain ⟨r5, hr5⟩ : ∃ r, exprF E (τ4.l.length + 1) 1 0 τ4 = r := ⟨_, rfl⟩
      rw [hr5] at HX hT hZ hK
      have HJ := Lib.hid (show J = whenF (Bf E) deep k r5 by rw [← hr5]; exact HJ.out)
      have HX : Hid (Calls Tryz.prog 143 #[.pointer (some ⟨G, 0, none⟩), .int .i64 1, .int .i64 0] w4 (ExP G E r5 w4)) := HX
      obtain ⟨o5, τ5⟩ := r5
      have T5 := Lib.hid (T4.out.trans hT)
      have L5 := Lib.hid (Nat.lt_of_le_of_lt hT.2.1 L4.out)
      have A5 := Lib.hid (hT.1 A4.out)
      have hx4 := S4.out.bx.lt
      have V5 := Lib.hid (show τ5.c = 0 → Lv o5 from fun ec e he => ⟨by have := hZ ec e he; have h4 := L4.out; have := HP.out.few; simp only at *; omega, hK e he⟩)
      clear hr5 hT hZ hK A4 T4 L4
      go_wp2_with fail
      refine (HX.out).mono ?_; rintro e w5 ⟨v5, rfl, hst, ⟨p5, rfl⟩, hx⟩
      obtain ⟨lv5, hn5⟩ := S4.out.step hst
      have S5 := Lib.hid hn5
      have X5 := Lib.hid hx
      simp only at S5 X5 T5 L5 A5
      clear hst hn5 hx HX S4
      have y0 : w5.cell? ⟨X, 0, none⟩ = some (.int .i64 0) := S5.out.bx.cell 0
      have y8 : w5.cell? ⟨X, 8, none⟩ = some (.pointer none) := S5.out.bx.cell 8
      have f0 := S5.out.bx.free 0
      have f8 := S5.out.bx.free 8
      obtain ⟨d1, hd1⟩ : ∃ d1, deep + 1 = d1 := ⟨_, rfl⟩
      have HJ := Lib.hid (show J = (.mk 4 k ⟨#[]⟩ ⟨#[]⟩ 0 0 false false o5 0 ⟨#[]⟩ ⟨#[]⟩ (Bf E d1 τ5).1, (Bf E d1 τ5).2) by rw [← hd1]; exact HJ.out)
      have ed : (deep : Int) + 1 = (d1 : Int) := by omega
      go_upto_region 8 with fail
      have S6 := Lib.hid ((S5.out.set 0 (.int .i64 4)).set 8 (.pointer p5))
      have X6 := Lib.hid (fun ec => let ⟨e, he, hx⟩ := X5.out ec; (⟨e, he, ((ExF.low hx hx4).set (X := X)).set⟩ : ∃ e, o5 = some e ∧ ExF (X + 1) ((w5.setCell ⟨X, 0, none⟩ (.int .i64 4)).setCell ⟨X, 8, none⟩ (.pointer p5)) e (.pointer p5)))
      clear S5 X5 y0 y8 f0 f8
      generalize (w5.setCell ⟨X, 0, none⟩ (.int .i64 4)).setCell ⟨X, 8, none⟩ (.pointer p5) = w6 at *
      have hB := Lib.hid (HI.out G E lv5 τ5 w6 d1 ⟨S6.out.ps, A5.out, hE, S6.out.mx, Nat.lt_of_lt_of_le S6.out.ml S6.out.gb.size, S6.out.gm, by have := L5.out; have := HP.out.few; omega⟩ (by omega) (fun _ => by have := L5.out; omega))
      go_wp2_with fail
      refine (hB.out).mono ?_; rintro e w7 ⟨τ7, l7, v7, rfl, hst, ht7, ⟨a7, m7, c7, rfl⟩, hx7, hJ7⟩
      have HJ := Lib.hid (show J = (.mk 4 k ⟨#[]⟩ ⟨#[]⟩ 0 0 false false o5 0 ⟨#[]⟩ ⟨#[]⟩ l7, τ7) by have := HJ.out; rw [hJ7] at this; exact this)
      obtain ⟨lv7, hn7⟩ := S6.out.step hst
      have S7 := Lib.hid hn7
      have T7 := Lib.hid (T5.out.trans ht7)
      have X7 := Lib.hid hx7
      have E7 := Lib.hid (fun e => let ⟨x, hx, hF⟩ := X6.out e; (⟨x, hx, ExF.grown hF hst.2 (by have := S6.out.hX; omega)⟩ : ∃ x, o5 = some x ∧ ExF (X + 1) w7 x (.pointer p5)))
      have C7 := Lib.hid (fun (ec : τ7.c = 0) => show τ5.c = 0 by
        by_cases hc5 : τ5.c = 0
        · exact hc5
        · rw [ht7.2.2 hc5] at ec; exact absurd ec hc5)
      have hx6 := S6.out.bx.lt
      clear hst hn7 ht7 hx7 hJ7 S6 X6 hB
      have y12 : w7.cell? ⟨X, 12, none⟩ = some (.slice none 0 0) := S7.out.bx.cell 12
      have f12 := S7.out.bx.free 12
      go_upto_region 9 with fail
      have S8 := Lib.hid (S7.out.set 12 (.slice a7 m7 c7))
      clear S7 y12 f12
      have E8 := Lib.hid (fun ec => let ⟨e, he, hx⟩ := E7.out ec; (⟨e, he, ExF.set hx⟩ : ∃ e, o5 = some e ∧ ExF (X + 1) (w7.setCell ⟨X, 12, none⟩ (.slice a7 m7 c7)) e (.pointer p5)))
      have X8 := Lib.hid (fun ec => let ⟨a, b, c, d⟩ := X7.out ec; (⟨a, b, c, Fw.later (Fw.low d hx6) (by simp [World.setCell]) fun k h1 _ => Below.heap_setCell _ _ _ _ (show k ≠ X by omega)⟩ : cl l7 + τ7.l.length < τ5.l.length ∧ l7.length ≤ 16 ∧ WfL l7 ∧ ItsF (X + 1) (w7.setCell ⟨X, 12, none⟩ (.slice a7 m7 c7)) l7 (.slice a7 m7 c7)))
      clear E7 X7
      generalize w7.setCell ⟨X, 12, none⟩ (.slice a7 m7 c7) = w8 at *
      have y0 : w8.cell? ⟨X, 0, none⟩ = some (.int .i64 4) := S8.out.bx.cell 0
      have y1 : w8.cell? ⟨X, 1, none⟩ = some (.int .i64 (k : Nat)) := S8.out.bx.cell 1
      have y2 : w8.cell? ⟨X, 2, none⟩ = some (.string ⟨#[]⟩) := S8.out.bx.cell 2
      have y3 : w8.cell? ⟨X, 3, none⟩ = some (.string ⟨#[]⟩) := S8.out.bx.cell 3
      have y4 : w8.cell? ⟨X, 4, none⟩ = some (.int .i64 0) := S8.out.bx.cell 4
      have y5 : w8.cell? ⟨X, 5, none⟩ = some (.int .i64 0) := S8.out.bx.cell 5
      have y6 : w8.cell? ⟨X, 6, none⟩ = some (.bool false) := S8.out.bx.cell 6
      have y7 : w8.cell? ⟨X, 7, none⟩ = some (.bool false) := S8.out.bx.cell 7
      have y8 : w8.cell? ⟨X, 8, none⟩ = some (.pointer p5) := S8.out.bx.cell 8
      have y9 : w8.cell? ⟨X, 9, none⟩ = some (.int .i64 0) := S8.out.bx.cell 9
      have y10 : w8.cell? ⟨X, 10, none⟩ = some (.string ⟨#[]⟩) := S8.out.bx.cell 10
      have y11 : w8.cell? ⟨X, 11, none⟩ = some (.string ⟨#[]⟩) := S8.out.bx.cell 11
      have y12 : w8.cell? ⟨X, 12, none⟩ = some (.slice a7 m7 c7) := S8.out.bx.cell 12
      have r0 : w8.cell? ⟨W.heap.size, 0, none⟩ = some (.int .i64 0) := S8.out.rx.cell 0
      have g0 := S8.out.rx.free 0
      have r1 : w8.cell? ⟨W.heap.size, 1, none⟩ = some (.int .i64 0) := S8.out.rx.cell 1
      have g1 := S8.out.rx.free 1
      have r2 : w8.cell? ⟨W.heap.size, 2, none⟩ = some (.string ⟨#[]⟩) := S8.out.rx.cell 2
      have g2 := S8.out.rx.free 2
      have r3 : w8.cell? ⟨W.heap.size, 3, none⟩ = some (.string ⟨#[]⟩) := S8.out.rx.cell 3
      have g3 := S8.out.rx.free 3
      have r4 : w8.cell? ⟨W.heap.size, 4, none⟩ = some (.int .i64 0) := S8.out.rx.cell 4
      have g4 := S8.out.rx.free 4
      have r5 : w8.cell? ⟨W.heap.size, 5, none⟩ = some (.int .i64 0) := S8.out.rx.cell 5
      have g5 := S8.out.rx.free 5
      have r6 : w8.cell? ⟨W.heap.size, 6, none⟩ = some (.bool false) := S8.out.rx.cell 6
      have g6 := S8.out.rx.free 6
      have r7 : w8.cell? ⟨W.heap.size, 7, none⟩ = some (.bool false) := S8.out.rx.cell 7
      have g7 := S8.out.rx.free 7
      have r8 : w8.cell? ⟨W.heap.size, 8, none⟩ = some (.pointer none) := S8.out.rx.cell 8
      have g8 := S8.out.rx.free 8
      have r9 : w8.cell? ⟨W.heap.size, 9, none⟩ = some (.int .i64 0) := S8.out.rx.cell 9
      have g9 := S8.out.rx.free 9
      have r10 : w8.cell? ⟨W.heap.size, 10, none⟩ = some (.string ⟨#[]⟩) := S8.out.rx.cell 10
      have g10 := S8.out.rx.free 10
      have r11 : w8.cell? ⟨W.heap.size, 11, none⟩ = some (.string ⟨#[]⟩) := S8.out.rx.cell 11
      have g11 := S8.out.rx.free 11
      have r12 : w8.cell? ⟨W.heap.size, 12, none⟩ = some (.slice none 0 0) := S8.out.rx.cell 12
      have g12 := S8.out.rx.free 12
      go_wp2_with fail
      have Q := Lib.hid (((((((((((((S8.out.rs.set 0 (.int .i64 4)).set 1 (.int .i64 (k : Nat))).set 2 (.string ⟨#[]⟩)).set 3 (.string ⟨#[]⟩)).set 4 (.int .i64 0)).set 5 (.int .i64 0)).set 6 (.bool false)).set 7 (.bool false)).set 8 (.pointer p5)).set 9 (.int .i64 0)).set 10 (.string ⟨#[]⟩)).set 11 (.string ⟨#[]⟩)).set 12 (.slice a7 m7 c7))
      clear y0 r0 g0 y1 r1 g1 y2 r2 g2 y3 r3 g3 y4 r4 g4 y5 r5 g5 y6 r6 g6 y7 r7 g7 y8 r8 g8 y9 r9 g9 y10 r10 g10 y11 r11 g11 y12 r12 g12
      generalize (((((((((((((w8.setCell ⟨W.heap.size, 0, none⟩ (.int .i64 4)).setCell ⟨W.heap.size, 1, none⟩ (.int .i64 (k : Nat))).setCell ⟨W.heap.size, 2, none⟩ (.string ⟨#[]⟩)).setCell ⟨W.heap.size, 3, none⟩ (.string ⟨#[]⟩)).setCell ⟨W.heap.size, 4, none⟩ (.int .i64 0)).setCell ⟨W.heap.size, 5, none⟩ (.int .i64 0)).setCell ⟨W.heap.size, 6, none⟩ (.bool false)).setCell ⟨W.heap.size, 7, none⟩ (.bool false)).setCell ⟨W.heap.size, 8, none⟩ (.pointer p5)).setCell ⟨W.heap.size, 9, none⟩ (.int .i64 0)).setCell ⟨W.heap.size, 10, none⟩ (.string ⟨#[]⟩)).setCell ⟨W.heap.size, 11, none⟩ (.string ⟨#[]⟩)).setCell ⟨W.heap.size, 12, none⟩ (.slice a7 m7 c7)) = w9 at *
      refine bodyPost_ret (item_results _ _ W.heap.size _ _ _ _ _ _ _ _ _ _ _ _ _ rfl Q.out.rx) rfl ?_
      refine ⟨τ7, .mk 4 k ⟨#[]⟩ ⟨#[]⟩ 0 0 false false o5 0 ⟨#[]⟩ ⟨#[]⟩ l7, p5, .slice a7 m7 c7, rfl, ⟨⟨_, Q.out.ps⟩, Q.out.gb⟩, T7.out, ⟨_, _, _, rfl⟩, fun ec => ?_, HJ.out⟩
      obtain ⟨x1, x2, x3, x4⟩ := X8.out ec
      obtain ⟨e5, he5, hxe⟩ := E8.out (C7.out ec)
      have V5 := V5
      subst he5
      refine ⟨by have := L5.out; simp only [ci]; omega, wf_when hpl x2 x3 (V5.out (C7.out ec)), ?_⟩
      exact Q.out.itF S8.out.hX (itF_mk (ctF_some hxe) x4)
    · have e1 := tl_no (a := #[119, 104, 101, 110]) c1
      by_cases c2 : s = ⟨#[98, 121, 116, 101, 115]⟩
      · have hse : txt σ ≠ emp := by rw [hs, c2]; decide
        have e2 : (s.toList == [98, 121, 116, 101, 115]) = true := tl_yes (a := #[98, 121, 116, 101, 115]) c2
        have e1 : (s.toList == [119, 104, 101, 110]) = false := e1
        have HS := Lib.hid hs
        have HJ := Lib.hid (show J = taiF E (headB E k (nameF E (pass E σ))) from (HJ.out.trans (if_neg (by rw [hs]; exact c1))).trans (congrArg (taiF E) (if_pos (hs.trans c2))))
        clear c1 c2 hs
        go_wp2_with fail
        refine (pass_any S3.out.ps).mono ?_; rintro e w4 ⟨rfl, hst⟩
        obtain ⟨lv4, hn4⟩ := S3.out.step hst
        have S4 := Lib.hid hn4
        have T4 := Lib.hid (pass_0 E σ)
        have L4 := Lib.hid (pass_lt (E := E) (σ := σ) hse)
        have A4 := Lib.hid (T4.out.1 HA.out)
        generalize pass E σ = τ4 at *
        clear hst hn4
        go_wp2_with fail
        refine (name_any S4.out.ps A4.out S4.out.mx S4.out.gm).mono ?_; rintro e w5 ⟨rfl, hst⟩
        obtain ⟨lv5, hn5⟩ := S4.out.step hst
        have S5 := Lib.hid hn5
        have T5 := Lib.hid (T4.out.trans (name_0 E τ4))
        have L5 := Lib.hid (Nat.lt_of_le_of_lt (name_0 E τ4).2.1 L4.out)
        have Z5 := Lib.hid (name_sz (E := E) A4.out)
        have A5 := Lib.hid ((name_0 E τ4).1 A4.out)
        generalize nameF E τ4 = r5 at *
        obtain ⟨n5, τ5⟩ := r5
        have HJ := Lib.hid (show J = taiF E (.mk 2 k n5 ⟨#[]⟩ 0 0 false false (brackF E (τ5.l.length + 1) τ5).1 0 ⟨#[]⟩ ⟨#[]⟩ [], (brackF E (τ5.l.length + 1) τ5).2) from HJ.out)
        simp only at S5 T5 L5 Z5 A5
        clear hst hn5
        have y0 : w5.cell? ⟨X, 0, none⟩ = some (.int .i64 0) := S5.out.bx.cell 0
        have y2 : w5.cell? ⟨X, 2, none⟩ = some (.string ⟨#[]⟩) := S5.out.bx.cell 2
        have f0 := S5.out.bx.free 0
        have f2 := S5.out.bx.free 2
        go_upto_region 13 with fail
        have S6 := Lib.hid ((S5.out.set 0 (.int .i64 2)).set 2 (.string n5))
        clear S5 y0 y2 f0 f2
        generalize (w5.setCell ⟨X, 0, none⟩ (.int .i64 2)).setCell ⟨X, 2, none⟩ (.string n5) = w6 at *
        have hx6 := S6.out.bx.lt
        go_wp2_with fail
        refine (bracket_any S6.out.ps A5.out hE (τ5.l.length + 1) (Nat.lt_succ_self _)).mono ?_; rintro e w7 ⟨v7, rfl, hst, ⟨p7, rfl⟩, hx⟩
        obtain ⟨lv7, hn7⟩ := S6.out.step hst
        have S7 := Lib.hid hn7
        have T7 := Lib.hid (T5.out.trans (brack_0 E (τ5.l.length + 1) τ5))
        have L7 := Lib.hid (Nat.lt_of_le_of_lt (brack_0 E (τ5.l.length + 1) τ5).2.1 L5.out)
        have X7 := Lib.hid hx
        have Bz := brack_sz E (τ5.l.length + 1) τ5
        have Bk := brack_okk hE (τ5.l.length + 1) τ5 A5.out
        generalize brackF E (τ5.l.length + 1) τ5 = r7 at *
        obtain ⟨o7, τ7⟩ := r7
        have V7 := Lib.hid (show τ7.c = 0 → Lv o7 from fun ec e he => ⟨by have := Bz ec e he; have h5 := L5.out; have := HP.out.few; simp only at *; omega, Bk e he⟩)
        simp only at S7 T7 L7 X7
        clear hst hn7 hx Bz
        have y8 : w7.cell? ⟨X, 8, none⟩ = some (.pointer none) := S7.out.bx.cell 8
        have f8 := S7.out.bx.free 8
        go_wp2_with fail
        have S8 := Lib.hid (S7.out.set 8 (.pointer p7))
        go_meet
        refine ⟨lv7, τ7, .mk 2 k n5 ⟨#[]⟩ 0 0 false false o7 0 ⟨#[]⟩ ⟨#[]⟩ [], p7, S8, T7, Lib.hid fun _ => L7.out, Lib.hid ⟨.inr (.inl rfl), rfl, ⟨Z5.out, Nat.zero_le _⟩, fun h => absurd h (show ¬ (2 : Int) = 1 by decide), .inl rfl, rfl, rfl, rfl, rfl, rfl⟩, Lib.hid fun h => absurd rfl h, V7, Lib.hid fun _ ec => ?_, HJ⟩
        obtain ⟨e, he, hx⟩ := X7.out ec
        exact ⟨e, he, (ExF.low hx (by omega)).set⟩
      · have e2 := tl_no (a := #[98, 121, 116, 101, 115]) c2
        have e1 : (s.toList == [119, 104, 101, 110]) = false := e1
        have e2 : (s.toList == [98, 121, 116, 101, 115]) = false := e2
        have HU := Lib.hid (isNum_any s hsl w3 S3.out.mx)
        by_cases c3 : isNumP s = true
        · rw [c3] at HU
          obtain ⟨hs2, hs4⟩ := num_at c3
          obtain ⟨c9, hc9⟩ : ∃ c, s[1] = c := ⟨_, rfl⟩
          obtain ⟨d9, hd9⟩ : ∃ c, s[0] = c := ⟨_, rfl⟩
          have hse : txt σ ≠ emp := by intro e; rw [hs] at e; rw [e] at hs2; exact absurd hs2 (by decide)
          have hc9' : c9.toNat = 56 ∨ c9.toNat = 49 ∨ c9.toNat = 51 ∨ c9.toNat = 54 := by
            rw [hc9] at hs4
            rcases hs4 with h | h | h | h <;> subst h <;> simp
          have s0 : (0 : Int) < (s.size : Int) := by omega
          have s1 : (1 : Int) < (s.size : Int) := by omega
          have hcc := u8_lt c9
          have HS := Lib.hid hs
          have HJ := Lib.hid (show J = taiF E (headN k s (nameF E (pass E σ))) from (HJ.out.trans (if_neg (by rw [hs]; exact c1))).trans (congrArg (taiF E) ((if_neg (by rw [hs]; exact c2)).trans ((if_pos (by rw [hs]; exact c3)).trans (by rw [hs])))))
          have HJ := Lib.hid (show J = taiF E (.mk 1 k (nameF E (pass E σ)).1 ⟨#[]⟩ (widthOf c9.toNat) (if Lib.hasSuffix s.data.toList [98, 101] = true then 1 else 0) ((d9.toNat : Int) == 105) false none 0 ⟨#[]⟩ ⟨#[]⟩ [], (nameF E (pass E σ)).2) by
            rw [HJ.out]
            unfold headN
            rw [← byteAt_eq s 1 hs2, ← byteAt_eq s 0 (by omega), hc9, hd9])
          clear c1 c2 c3 hs hs4
          go_wp2_with fail
          refine (HU.out).mono ?_; rintro e wz ⟨rfl, rfl⟩
          go_wp2_with fail
          refine (pass_any S3.out.ps).mono ?_; rintro e w4 ⟨rfl, hst⟩
          obtain ⟨lv4, hn4⟩ := S3.out.step hst
          have S4 := Lib.hid hn4
          have T4 := Lib.hid (pass_0 E σ)
          have L4 := Lib.hid (pass_lt (E := E) (σ := σ) hse)
          have A4 := Lib.hid (T4.out.1 HA.out)
          generalize pass E σ = τ4 at *
          clear hst hn4
          have y0 : w4.cell? ⟨X, 0, none⟩ = some (.int .i64 0) := S4.out.bx.cell 0
          have y6 : w4.cell? ⟨X, 6, none⟩ = some (.bool false) := S4.out.bx.cell 6
          have f0 := S4.out.bx.free 0
          have f6 := S4.out.bx.free 6
          obtain ⟨sg, hsg⟩ : ∃ b : Bool, ((d9.toNat : Int) == 105) = b := ⟨_, rfl⟩
          rw [← hd9] at hsg
          go_upto_region 16 with fail
          go_region
          clear hsg
          generalize (((d9.toNat : Nat) : Int) == 105) = sg at HJ ⊢
          have S6 := Lib.hid (((S4.out.set 0 (.int .i64 1)).set 6 (.bool sg)).drew)
          clear S4 y0 y6 f0 f6
          generalize ((w4.setCell ⟨X, 0, none⟩ (.int .i64 1)).setCell ⟨X, 6, none⟩ (.bool sg)).drew = w6 at *
          obtain ⟨m1, m2, m3, m4, q1, q2, q3, q4, q5, hb⟩ := widths_made w6 c9.toNat (by omega)
          have hmm := @run_makeMap Tryz.prog
          have S7 := Lib.hid (S6.out.below hb)
          have y4 : m4.cell? ⟨X, 4, none⟩ = some (.int .i64 0) := S7.out.bx.cell 4
          have f4 := S7.out.bx.free 4
          have hwd : widthOf c9.toNat = 1 ∨ widthOf c9.toNat = 2 ∨ widthOf c9.toNat = 4 ∨ widthOf c9.toNat = 8 := by
            rcases hc9' with h | h | h | h <;> rw [h] <;> simp [widthOf]
          clear hb hc9'
          go_upto_region 18 with fail
          have S8 := Lib.hid (S7.out.set 4 (.int .i64 (widthOf c9.toNat)))
          clear S6 S7 y4 f4 q1 q2 q3 q4 q5 hmm
          generalize m4.setCell ⟨X, 4, none⟩ (.int .i64 (widthOf c9.toNat)) = w8 at *
          generalize widthOf c9.toNat = wd at *
          go_wp2_with fail
          refine (Tryz.strings_HasSuffix s ⟨#[98, 101]⟩ w8 (by omega)).mono ?_; rintro e wz ⟨rfl, rfl⟩
          generalize hbe : Lib.hasSuffix s.data.toList _ = be
          have HJ := Lib.hid (HJ.out.trans (by rw [show Lib.hasSuffix s.data.toList [98, 101] = be from hbe]))
          clear hbe
          go_wp2_with fail
          refine (one_any be wz).mono ?_; rintro e wz2 ⟨rfl, rfl⟩
          generalize hor : (if be = true then (1 : Int) else 0) = oi at *
          have hor' : oi = 0 ∨ oi = 1 := by rw [← hor]; cases be <;> simp
          have y5 : wz.cell? ⟨X, 5, none⟩ = some (.int .i64 0) := S8.out.bx.cell 5
          have f5 := S8.out.bx.free 5
          go_upto_region 19 with fail
          have S9 := Lib.hid (S8.out.set 5 (.int .i64 oi))
          clear S8 y5 f5
          generalize wz.setCell ⟨X, 5, none⟩ (.int .i64 oi) = w9 at *
          go_wp2_with fail
          refine (name_any S9.out.ps A4.out S9.out.mx S9.out.gm).mono ?_; rintro e w10 ⟨rfl, hst⟩
          obtain ⟨lv5, hn5⟩ := S9.out.step hst
          have S10 := Lib.hid hn5
          have T5 := Lib.hid (T4.out.trans (name_0 E τ4))
          have L5 := Lib.hid (Nat.lt_of_le_of_lt (name_0 E τ4).2.1 L4.out)
          have Z5 := Lib.hid (name_sz (E := E) A4.out)
          generalize nameF E τ4 = r5 at *
          obtain ⟨n5, τ5⟩ := r5
          have HJ := Lib.hid (show J = taiF E (.mk 1 k n5 ⟨#[]⟩ wd oi sg false none 0 ⟨#[]⟩ ⟨#[]⟩ [], τ5) from HJ.out)
          simp only at S10 T5 L5 Z5
          clear hst hn5 S9
          have y2 : w10.cell? ⟨X, 2, none⟩ = some (.string ⟨#[]⟩) := S10.out.bx.cell 2
          have f2 := S10.out.bx.free 2
          go_wp2_with fail
          have S11 := Lib.hid (S10.out.set 2 (.string n5))
          go_meet
          exact ⟨lv5, τ5, .mk 1 k n5 ⟨#[]⟩ wd oi sg false none 0 ⟨#[]⟩ ⟨#[]⟩ [], none, S11, T5, Lib.hid fun _ => L5.out, Lib.hid ⟨.inl rfl, rfl, ⟨Z5.out, Nat.zero_le _⟩, fun _ => hwd, hor', rfl, rfl, rfl, rfl, rfl⟩, Lib.hid fun _ => ⟨rfl, rfl⟩, Lib.hid fun _ => lv_none, Lib.hid fun h => absurd h (show ¬ (1 : Int) = 2 by decide), HJ⟩
        · rw [Bool.not_eq_true] at c3
          rw [c3] at HU
          have HJ := Lib.hid (show J = taiF E (headT E k (nameF E σ)) from (HJ.out.trans (if_neg (by rw [hs]; exact c1))).trans (congrArg (taiF E) ((if_neg (by rw [hs]; exact c2)).trans (if_neg (by rw [hs, c3]; decide)))))
          clear c1 c2 c3 hs
          go_wp2_with fail
          refine (HU.out).mono ?_; rintro e wz ⟨rfl, rfl⟩
          go_wp2_with fail
          refine (name_any S3.out.ps HA.out S3.out.mx S3.out.gm).mono ?_; rintro e w4 ⟨rfl, hst⟩
          obtain ⟨lv4, h4⟩ := S3.out.step hst
          have S4 := Lib.hid h4
          have T4 := Lib.hid (name_0 E σ)
          have L4 := Lib.hid (fun e => name_lt (E := E) (σ := σ) e)
          have Z4 := Lib.hid (name_sz (E := E) HA.out)
          have A4 := Lib.hid (T4.out.1 HA.out)
          generalize nameF E σ = r4 at *
          obtain ⟨n4, τ4⟩ := r4
          have HJ := Lib.hid (show J = taiF E (.mk 3 k (nameF E τ4).1 n4 0 0 false false none 0 ⟨#[]⟩ ⟨#[]⟩ [], (nameF E τ4).2) from HJ.out)
          simp only at S4 T4 L4 Z4 A4
          clear hst h4
          have y0 : w4.cell? ⟨X, 0, none⟩ = some (.int .i64 0) := S4.out.bx.cell 0
          have y3 : w4.cell? ⟨X, 3, none⟩ = some (.string ⟨#[]⟩) := S4.out.bx.cell 3
          have f0 := S4.out.bx.free 0
          have f3 := S4.out.bx.free 3
          go_upto_region 4 with fail
          have S5 := Lib.hid ((S4.out.set 0 (.int .i64 3)).set 3 (.string n4))
          clear S4 y0 y3 f0 f3
          generalize (w4.setCell ⟨X, 0, none⟩ (.int .i64 3)).setCell ⟨X, 3, none⟩ (.string n4) = w5 at *
          go_wp2_with fail
          refine (name_any S5.out.ps A4.out S5.out.mx S5.out.gm).mono ?_; rintro e w6 ⟨rfl, hst⟩
          obtain ⟨lv6, h6⟩ := S5.out.step hst
          have S6 := Lib.hid h6
          have T6 := Lib.hid (T4.out.trans (name_0 E τ4))
          have L6 := Lib.hid (fun e => Nat.lt_of_lt_of_le (name_lt (E := E) (σ := τ4) e) T4.out.2.1)
          have Z6 := Lib.hid (name_sz (E := E) A4.out)
          generalize nameF E τ4 = r6 at *
          obtain ⟨n6, τ6⟩ := r6
          simp only at S6 T6 L6 Z6
          clear hst h6 S5
          have y2 : w6.cell? ⟨X, 2, none⟩ = some (.string ⟨#[]⟩) := S6.out.bx.cell 2
          have f2 := S6.out.bx.free 2
          go_wp2_with fail
          have S7 := Lib.hid (S6.out.set 2 (.string n6))
          go_meet
          exact ⟨lv6, τ6, .mk 3 k n6 n4 0 0 false false none 0 ⟨#[]⟩ ⟨#[]⟩ [], none, S7, T6, L6, Lib.hid ⟨.inr (.inr rfl), rfl, ⟨Z6.out, Z4.out⟩, fun h => absurd h (show ¬ (3 : Int) = 1 by decide), .inl rfl, rfl, rfl, rfl, rfl, rfl⟩, Lib.hid fun _ => ⟨rfl, rfl⟩, Lib.hid fun _ => lv_none, Lib.hid fun h => absurd h (show ¬ (3 : Int) = 2 by decide), HJ⟩
  case rest =>
    obtain ⟨lv1, τ1, ⟨kd, k1, nm, tp, wd, od, sg, mn, ct, ru, fi, la, its⟩, p1, S1, T1, L1, H1, N1, V1, C1, J1⟩ := hcut
    have A1 := Lib.hid (T1.out.1 HP.out.at_)
    obtain ⟨hr1, hr2, hr3, hr4, hr5⟩ := H1.out.rest
    obtain rfl : mn = false := hr1
    obtain rfl : ru = 0 := hr2
    obtain rfl : fi = ⟨#[]⟩ := hr3
    obtain rfl : la = ⟨#[]⟩ := hr4
    obtain rfl : its = [] := hr5
    obtain rfl : k1 = k := H1.out.place
    have hkd : kd = 1 ∨ kd = 2 ∨ kd = 3 := H1.out.kind
    have F1 := Lib.hid (show τ1.c = 0 → (kd = 2 → ct ≠ none) ∧ Fw (X + 1) wc fun w2 => CtAt w2 ct (.pointer p1) from fun ec => by
      by_cases h2 : kd = 2
      · obtain ⟨e, he, hx⟩ := C1.out h2 ec
        obtain rfl : ct = some e := he
        exact ⟨fun _ => by simp, ctF_some hx⟩
      · obtain ⟨he, hp⟩ := N1.out h2
        obtain rfl : ct = none := he
        obtain rfl : p1 = none := hp
        exact ⟨fun h => absurd h h2, ctF_none _ _⟩)
    have N2 := Lib.hid (show kd ≠ 2 → ct = none ∧ p1 = none from N1.out)
    clear N1 C1 hs S3 l1 HJ
    go_upto_region 20 with fail
    go_cut [77] (fun v wx => ∃ b : Bool, v = .bool b ∧ Hid (IS W G E W.heap.size X lv1 τ1 (itVals (.mk kd k1 nm tp wd od sg false ct 0 ⟨#[]⟩ ⟨#[]⟩ []) (.pointer p1) (.slice none 0 0)) wx) ∧ Hid (b = true → kd ≠ 2 ∧ txt τ1 = ⟨#[91]⟩) ∧ Hid (b = false → ¬ (kd ≠ 2 ∧ txt τ1 = ⟨#[91]⟩)) ∧ Hid (τ1.c = 0 → (kd = 2 → ct ≠ none) ∧ Fw (X + 1) wx fun w2 => CtAt w2 ct (.pointer p1)))
    case first =>
      have y0 : wc.cell? ⟨X, 0, none⟩ = some (.int .i64 kd) := S1.out.bx.cell 0
      by_cases hk2 : kd = 2
      · rw [hk2] at y0
        go_wp2_with fail
        go_meet
        exact ⟨false, rfl, S1, Lib.hid (fun h => by cases h), Lib.hid (fun _ h => h.1 hk2), F1⟩
      · have hk3 : (kd == 2) = false := by simpa using hk2
        have hk4 : (kd != 2) = true := by simpa using hk2
        go_wp2_with fail
        refine (text_any S1.out.ps).mono ?_; rintro e w3 ⟨rfl, hb⟩
        have S3 := Lib.hid (S1.out.below hb)
        have F3 := Lib.hid (fun ec => (⟨(F1.out ec).1, Fw.below (F1.out ec).2 hb⟩ : (kd = 2 → ct ≠ none) ∧ Fw (X + 1) w3 fun w2 => CtAt w2 ct (.pointer p1)))
        obtain ⟨s3, hs3⟩ : ∃ s, txt τ1 = s := ⟨_, rfl⟩
        rw [hs3]
        clear hb
        by_cases c3 : s3 = ⟨#[91]⟩
        · have e3 : (s3.toList == [91]) = true := tl_yes (a := #[91]) c3
          have E3 := Lib.hid (hs3.trans c3)
          clear hs3 c3
          go_wp2_with fail
          go_meet
          exact ⟨true, by first | rfl | rw [hk4], S3, Lib.hid (fun _ => ⟨hk2, E3.out⟩), Lib.hid (fun h => by cases h), F3⟩
        · have e3 : (s3.toList == [91]) = false := tl_no (a := #[91]) c3
          have N3 := Lib.hid (show ¬ txt τ1 = ⟨#[91]⟩ by rw [hs3]; exact c3)
          clear hs3 c3
          go_wp2_with fail
          go_meet
          exact ⟨false, rfl, S3, Lib.hid (fun h => by cases h), Lib.hid (fun _ h => N3.out h.2), F3⟩
    case rest =>
      clear S1 F1
      obtain ⟨b, rfl, S2, B2, BN, F2⟩ := hcut
      go_upto_if 77 with fail
      go_cut [] (fun wx => TlR J σ W G E X wx)
      case first =>
        cases b with
        | true =>
          obtain ⟨hk2, hk91⟩ := B2.out rfl
          have HJ := Lib.hid (J1.out.trans (taiF_many (x := .mk kd k1 nm tp wd od sg false ct 0 ⟨#[]⟩ ⟨#[]⟩ []) hk2 hk91))
          clear hk91
          have hx2 := S2.out.bx.lt
          go_wp2_with fail
          refine (bracket_any S2.out.ps A1.out hE (τ1.l.length + 1) (Nat.lt_succ_self _)).mono ?_; rintro e w7 ⟨v7, rfl, hst, ⟨p7, rfl⟩, hx⟩
          obtain ⟨lv7, hn7⟩ := S2.out.step hst
          have S7 := Lib.hid hn7
          have B0 := brack_0 E (τ1.l.length + 1) τ1
          have Bz := brack_sz E (τ1.l.length + 1) τ1
          have Bk := brack_okk hE (τ1.l.length + 1) τ1 A1.out
          generalize brackF E (τ1.l.length + 1) τ1 = r7 at *
          obtain ⟨o7, τ7⟩ := r7
          have HJ := Lib.hid (show J = endF E (.mk kd k1 nm tp wd od sg true o7 0 ⟨#[]⟩ ⟨#[]⟩ [], τ7) from HJ.out)
          have T7 := Lib.hid (T1.out.trans B0)
          have L7 := Lib.hid (show τ7.c = 0 → τ7.l.length < σ.l.length from fun ec => Nat.lt_of_le_of_lt B0.2.1 (L1.out (by
            by_cases h : τ1.c = 0
            · exact h
            · have e := B0.2.2 h; simp only at e; rw [e] at ec; exact absurd ec h)))
          have X7 := Lib.hid hx
          have V7 := Lib.hid (show τ7.c = 0 → Lv o7 from fun ec e he => ⟨by have := Bz ec e he; have h5 := T1.out.2.1; have := HP.out.few; simp only at *; omega, Bk e he⟩)
          simp only at S7 T7 L7 X7
          clear hst hn7 hx B0 Bz Bk
          have y7 : w7.cell? ⟨X, 7, none⟩ = some (.bool false) := S7.out.bx.cell 7
          have y8 : w7.cell? ⟨X, 8, none⟩ = some (.pointer p1) := S7.out.bx.cell 8
          have f7 := S7.out.bx.free 7
          have f8 := S7.out.bx.free 8
          go_wp2_with fail
          have S8 := Lib.hid ((S7.out.set 7 (.bool true)).set 8 (.pointer p7))
          go_meet
          refine ⟨lv7, τ7, .mk kd k1 nm tp wd od sg true o7 0 ⟨#[]⟩ ⟨#[]⟩ [], p7, S8, T7, L7, Lib.hid fun ec => ?_, Lib.hid rfl, HJ⟩
          have v7 := V7.out ec
          obtain ⟨e, rfl, hx⟩ := X7.out ec
          exact ⟨wf_of H1.out hpl ⟨by decide, by decide⟩ (fun h => absurd rfl h) (by decide) (by decide) (fun _ => by simp) (fun _ h => by cases h) v7, (ctF_some (ExF.low hx hx2)).setX.setX⟩
        | false =>
          have y0 : wc.cell? ⟨X, 0, none⟩ = some (.int .i64 kd) := S2.out.bx.cell 0
          have base := Lib.hid (fun (ec : τ1.c = 0) => (⟨wf_of H1.out hpl ⟨by decide, by decide⟩ (fun h => absurd rfl h) (by decide) (by decide) (fun h => by rcases h with h | h; exact (F2.out ec).1 h; cases h) (fun h _ => (N2.out h).1) (V1.out ec), (F2.out ec).2⟩ : WfI (.mk kd k1 nm tp wd od sg false ct 0 ⟨#[]⟩ ⟨#[]⟩ []) ∧ Fw (X + 1) wc fun w2 => CtAt w2 ct (.pointer p1)))
          by_cases hk1 : kd = 1
          · subst hk1
            obtain ⟨hct, hp1⟩ := N2.out (by decide)
            subst hct
            subst hp1
            have HJ := Lib.hid (J1.out.trans (taiF_rule (x := .mk 1 k1 nm tp wd od sg false none 0 ⟨#[]⟩ ⟨#[]⟩ []) (BN.out rfl) rfl))
            go_wp2_with fail
            refine (take_any S2.out.ps ⟨#[61]⟩).mono ?_; rintro e w3 ⟨rfl, hst⟩
            obtain ⟨lv3, hn3⟩ := S2.out.step hst
            have S3 := Lib.hid hn3
            have B0 := take_0 E τ1 ⟨#[61]⟩
            have B1 := Lib.hid (fun ec => (base.out ec).1)
            generalize take E τ1 ⟨#[61]⟩ = τ3 at *
            generalize decide (txt τ1 = ⟨#[61]⟩) = dd at *
            have T3 := Lib.hid (T1.out.trans B0)
            have C3 := Lib.hid (show τ3.c = 0 → τ1.c = 0 from fun ec => by
              by_cases h : τ1.c = 0
              · exact h
              · rw [B0.2.2 h] at ec; exact absurd ec h)
            have L3 := Lib.hid (show τ3.c = 0 → τ3.l.length < σ.l.length from fun ec => Nat.lt_of_le_of_lt B0.2.1 (L1.out (C3.out ec)))
            clear hst hn3 B0 S2 base F2 y0
            cases dd with
            | false =>
              go_wp2_with fail
              go_meet
              exact ⟨lv3, τ3, .mk 1 k1 nm tp wd od sg false none 0 ⟨#[]⟩ ⟨#[]⟩ [], none, S3, T3, L3, Lib.hid fun ec => ⟨B1.out (C3.out ec), ctF_none _ _⟩, Lib.hid rfl, HJ⟩
            | true =>
              have HJ := Lib.hid (show J = rule2F E (.mk 1 k1 nm tp wd od sg false none 0 ⟨#[]⟩ ⟨#[]⟩ []) (ruOf (txt τ3)) (if ruOf (txt τ3) = 0 then wrong (pass E τ3) 3 (pos E τ3 : Nat) else pass E τ3) from HJ.out)
              go_wp2_with fail
              refine (place_any S3.out.ps).mono ?_; rintro e w4 ⟨rfl, hb⟩
              have S4 := Lib.hid (S3.out.below hb)
              generalize pos E τ3 = kp at *
              clear hb S3
              go_wp2_with fail
              refine (pass_any S4.out.ps).mono ?_; rintro e w5 ⟨rfl, hst⟩
              obtain ⟨lv5, hn5⟩ := S4.out.step hst
              have S5 := Lib.hid hn5
              have B0 := pass_0 E τ3
              generalize txt τ3 = sw at *
              generalize pass E τ3 = τ5 at *
              have T5 := Lib.hid (T3.out.trans B0)
              have L5 := Lib.hid (show τ5.c = 0 → τ5.l.length < σ.l.length from fun ec => Nat.lt_of_le_of_lt B0.2.1 (L3.out (by
                by_cases h : τ3.c = 0
                · exact h
                · rw [B0.2.2 h] at ec; exact absurd ec h)))
              clear hst hn5 B0 S4 B1 C3
              have y9 : w5.cell? ⟨X, 9, none⟩ = some (.int .i64 0) := S5.out.bx.cell 9
              have f9 := S5.out.bx.free 9
              go_upto_block 1 with fail
              go_cut [] (fun wx => ∃ (lv : Value) (ru : Int) (τ : Ey), Hid (IS W G E W.heap.size X lv τ (itVals (.mk 1 k1 nm tp wd od sg false none ru ⟨#[]⟩ ⟨#[]⟩ []) (.pointer none) (.slice none 0 0)) wx) ∧ Hid (Tm0 σ τ) ∧ Hid (τ.c = 0 → τ.l.length < σ.l.length) ∧ Hid (0 ≤ ru ∧ ru ≤ 3) ∧ Hid (J = rule2F E (.mk 1 k1 nm tp wd od sg false none 0 ⟨#[]⟩ ⟨#[]⟩ []) ru τ))
              case first =>
                by_cases c1 : sw = ⟨#[115, 105, 122, 101]⟩
                · have e1 : (sw.toList == [115, 105, 122, 101]) = true := tl_yes (a := #[115, 105, 122, 101]) c1
                  have ruv : ruOf sw = 1 := by rw [c1]; decide
                  have HJ := Lib.hid (show J = rule2F E (.mk 1 k1 nm tp wd od sg false none 0 ⟨#[]⟩ ⟨#[]⟩ []) 1 τ5 by have q := HJ.out; rw [ruv, if_neg (by decide)] at q; exact q)
                  clear c1 ruv
                  go_wp2_with fail
                  have S6 := Lib.hid (S5.out.set 9 (.int .i64 1))
                  go_meet
                  exact ⟨lv5, 1, τ5, S6, T5, L5, Lib.hid ⟨by decide, by decide⟩, HJ⟩
                · have e1 : (sw.toList == [115, 105, 122, 101]) = false := tl_no (a := #[115, 105, 122, 101]) c1
                  have Nc1 := Lib.hid c1
                  clear c1
                  by_cases c2 : sw = ⟨#[99, 111, 117, 110, 116]⟩
                  · have e2 : (sw.toList == [99, 111, 117, 110, 116]) = true := tl_yes (a := #[99, 111, 117, 110, 116]) c2
                    have ruv : ruOf sw = 2 := by rw [c2]; decide
                    have HJ := Lib.hid (show J = rule2F E (.mk 1 k1 nm tp wd od sg false none 0 ⟨#[]⟩ ⟨#[]⟩ []) 2 τ5 by have q := HJ.out; rw [ruv, if_neg (by decide)] at q; exact q)
                    clear c2 ruv
                    go_wp2_with fail
                    have S6 := Lib.hid (S5.out.set 9 (.int .i64 2))
                    go_meet
                    exact ⟨lv5, 2, τ5, S6, T5, L5, Lib.hid ⟨by decide, by decide⟩, HJ⟩
                  · have e2 : (sw.toList == [99, 111, 117, 110, 116]) = false := tl_no (a := #[99, 111, 117, 110, 116]) c2
                    have Nc2 := Lib.hid c2
                    clear c2
                    by_cases c3 : sw = ⟨#[99, 104, 101, 99, 107]⟩
                    · have e3 : (sw.toList == [99, 104, 101, 99, 107]) = true := tl_yes (a := #[99, 104, 101, 99, 107]) c3
                      have ruv : ruOf sw = 3 := by rw [c3]; decide
                      have HJ := Lib.hid (show J = rule2F E (.mk 1 k1 nm tp wd od sg false none 0 ⟨#[]⟩ ⟨#[]⟩ []) 3 τ5 by have q := HJ.out; rw [ruv, if_neg (by decide)] at q; exact q)
                      clear c3 ruv
                      go_wp2_with fail
                      have S6 := Lib.hid (S5.out.set 9 (.int .i64 3))
                      go_meet
                      exact ⟨lv5, 3, τ5, S6, T5, L5, Lib.hid ⟨by decide, by decide⟩, HJ⟩
                    · have e3 : (sw.toList == [99, 104, 101, 99, 107]) = false := tl_no (a := #[99, 104, 101, 99, 107]) c3
                      have ruv : ruOf sw = 0 := by unfold ruOf; rw [if_neg Nc1.out, if_neg Nc2.out, if_neg c3]
                      have HJ := Lib.hid (show J = rule2F E (.mk 1 k1 nm tp wd od sg false none 0 ⟨#[]⟩ ⟨#[]⟩ []) 0 (wrong τ5 3 (kp : Nat)) by have q := HJ.out; rw [ruv, if_pos rfl] at q; exact q)
                      clear c3 ruv
                      go_wp2_with fail
                      refine (wrong_any S5.out.ps 3 (kp : Nat)).mono ?_; rintro e w6 ⟨rfl, hst⟩
                      obtain ⟨lv6, hn6⟩ := S5.out.step hst
                      have S6 := Lib.hid hn6
                      have T6 := Lib.hid (T5.out.trans (wrong_0 τ5 3 (kp : Nat)))
                      go_wp2_with fail
                      go_meet
                      exact ⟨lv6, 0, _, S6, T6, Lib.hid (fun ec => absurd ec (wrong_bad _ _ _ (by decide))), Lib.hid ⟨by decide, by decide⟩, HJ⟩
              case rest =>
                clear S5 T5 L5 y9 f9 HJ
                obtain ⟨lv6, ru, τ6, S6, T6, L6, R6, J6⟩ := hcut
                have HJ := Lib.hid (show J = rule3F E (.mk 1 k1 nm tp wd od sg false none 0 ⟨#[]⟩ ⟨#[]⟩ []) ru (nameF E τ6) from J6.out)
                clear J6
                have A6 := Lib.hid (T6.out.1 HP.out.at_)
                go_wp2_with fail
                refine (name_any S6.out.ps A6.out S6.out.mx S6.out.gm).mono ?_; rintro e w7 ⟨rfl, hst⟩
                obtain ⟨lv7, hn7⟩ := S6.out.step hst
                have S7 := Lib.hid hn7
                have T7 := Lib.hid (T6.out.trans (name_0 E τ6))
                have L7 := Lib.hid (fun e => Nat.lt_of_lt_of_le (name_lt (E := E) (σ := τ6) e) T6.out.2.1)
                have Z7 := Lib.hid (name_sz (E := E) A6.out)
                have A7 := Lib.hid ((name_0 E τ6).1 A6.out)
                generalize nameF E τ6 = r7 at *
                obtain ⟨n7, τ7⟩ := r7
                simp only at S7 T7 L7 Z7 A7
                clear hst hn7 S6
                have y10 : w7.cell? ⟨X, 10, none⟩ = some (.string ⟨#[]⟩) := S7.out.bx.cell 10
                have f10 := S7.out.bx.free 10
                go_upto_region 33 with fail
                have S8 := Lib.hid (S7.out.set 10 (.string n7))
                clear S7 y10 f10
                generalize w7.setCell ⟨X, 10, none⟩ (.string n7) = w8 at *
                have y9 : w8.cell? ⟨X, 9, none⟩ = some (.int .i64 ru) := S8.out.bx.cell 9
                by_cases h3 : ru = 3
                · subst h3
                  have y10 : w8.cell? ⟨X, 10, none⟩ = some (.string n7) := S8.out.bx.cell 10
                  have y11 : w8.cell? ⟨X, 11, none⟩ = some (.string ⟨#[]⟩) := S8.out.bx.cell 11
                  have f11 := S8.out.bx.free 11
                  have S9 := Lib.hid (S8.out.set 11 (.string n7))
                  go_wp2_with fail
                  refine (text_any S9.out.ps).mono ?_; rintro e w10 ⟨rfl, hb⟩
                  have S10 := Lib.hid (S9.out.below hb)
                  have HJ := Lib.hid (show J = if txt τ7 = ⟨#[59]⟩ then endF E (.mk 1 k1 nm tp wd od sg false none 3 n7 n7 [], τ7) else rule4F E (.mk 1 k1 nm tp wd od sg false none 0 ⟨#[]⟩ ⟨#[]⟩ []) n7 (nameF E τ7) from HJ.out.trans (if_pos rfl))
                  generalize hst7 : txt τ7 = st at *
                  clear hb S9 S8 y9 y10 y11 f11
                  by_cases c5 : st = ⟨#[59]⟩
                  · have e5 : (st.toList == [59]) = true := tl_yes (a := #[59]) c5
                    have HJ := Lib.hid (HJ.out.trans (if_pos c5))
                    clear c5 hst7
                    go_wp2_with fail
                    go_meet
                    exact ⟨lv7, τ7, .mk 1 k1 nm tp wd od sg false none 3 n7 n7 [], none, S10, T7, L7, Lib.hid fun _ => ⟨wf_of H1.out hpl ⟨by decide, by decide⟩ (fun _ => ⟨rfl, rfl⟩) Z7.out Z7.out (fun h => by rcases h with h | h; exact absurd h (by decide); cases h) (fun _ _ => rfl) lv_none, ctF_none _ _⟩, Lib.hid rfl, HJ⟩
                  · have e5 : (st.toList == [59]) = false := tl_no (a := #[59]) c5
                    have HJ := Lib.hid (HJ.out.trans (if_neg c5))
                    clear c5 hst7
                    go_wp2_with fail
                    refine (name_any S10.out.ps A7.out S10.out.mx S10.out.gm).mono ?_; rintro e w11 ⟨rfl, hst⟩
                    obtain ⟨lv11, hn11⟩ := S10.out.step hst
                    have S11 := Lib.hid hn11
                    have T11 := Lib.hid (T7.out.trans (name_0 E τ7))
                    have L11 := Lib.hid (fun e => Nat.lt_of_lt_of_le (name_lt (E := E) (σ := τ7) e) T7.out.2.1)
                    have Z11 := Lib.hid (name_sz (E := E) A7.out)
                    generalize nameF E τ7 = r11 at *
                    obtain ⟨n11, τ11⟩ := r11
                    simp only at S11 T11 L11 Z11
                    clear hst hn11 S10
                    have y11 : w11.cell? ⟨X, 11, none⟩ = some (.string n7) := S11.out.bx.cell 11
                    have f11 := S11.out.bx.free 11
                    go_wp2_with fail
                    have S12 := Lib.hid (S11.out.set 11 (.string n11))
                    go_meet
                    exact ⟨lv11, τ11, .mk 1 k1 nm tp wd od sg false none 3 n7 n11 [], none, S12, T11, L11, Lib.hid fun _ => ⟨wf_of H1.out hpl ⟨by decide, by decide⟩ (fun _ => ⟨rfl, rfl⟩) Z7.out Z11.out (fun h => by rcases h with h | h; exact absurd h (by decide); cases h) (fun _ _ => rfl) lv_none, ctF_none _ _⟩, Lib.hid rfl, HJ⟩
                · have h3' : (ru == 3) = false := by simpa using h3
                  have HJ := Lib.hid (show J = endF E (.mk 1 k1 nm tp wd od sg false none ru n7 ⟨#[]⟩ [], τ7) from HJ.out.trans (if_neg h3))
                  go_wp2_with fail
                  go_meet
                  exact ⟨lv7, τ7, .mk 1 k1 nm tp wd od sg false none ru n7 ⟨#[]⟩ [], none, S8, T7, L7, Lib.hid fun _ => ⟨wf_of H1.out hpl R6.out (fun _ => ⟨rfl, rfl⟩) Z7.out (by decide) (fun h => by rcases h with h | h; exact absurd h (by decide); cases h) (fun _ _ => rfl) lv_none, ctF_none _ _⟩, Lib.hid rfl, HJ⟩
          · have hk3 : (kd == 1) = false := by simpa using hk1
            have HJ := Lib.hid (J1.out.trans (taiF_bare (x := .mk kd k1 nm tp wd od sg false ct 0 ⟨#[]⟩ ⟨#[]⟩ []) (BN.out rfl) hk1))
            go_wp2_with fail
            go_meet
            exact ⟨lv1, τ1, .mk kd k1 nm tp wd od sg false ct 0 ⟨#[]⟩ ⟨#[]⟩ [], p1, S2, T1, L1, base, Lib.hid rfl, HJ⟩
      case rest =>
        clear S2 B2 F2 T1 L1 A1 H1 N2 V1 J1 BN
        obtain ⟨lv5, τ5, ⟨q0, q1, q2, q3, q4, q5, q6, q7, q8, q9, q10, q11, q12⟩, p5, S5, T5, L5, F5, I5, J5⟩ := hcut
        obtain rfl : q12 = [] := I5.out
        have HJ := Lib.hid (show J = (.mk q0 q1 q2 q3 q4 q5 q6 q7 q8 q9 q10 q11 [], must E τ5 ⟨#[59]⟩) from J5.out)
        clear J5
        go_wp2_with fail
        refine (must_any S5.out.ps ⟨#[59]⟩ (by decide)).mono ?_; rintro e w8 ⟨rfl, hst⟩
        obtain ⟨lv8, hn8⟩ := S5.out.step hst
        have S8 := Lib.hid hn8
        have hGX : G < X + 1 := by have := S5.out.hX; omega
        have F8 := Lib.hid (fun ec => (⟨(F5.out ec).1, Fw.grown (F5.out ec).2 hst.2 hGX⟩ : WfI (.mk q0 q1 q2 q3 q4 q5 q6 q7 q8 q9 q10 q11 []) ∧ Fw (X + 1) w8 fun w2 => CtAt w2 q8 (.pointer p5)))
        have B0 := must_0 E τ5 ⟨#[59]⟩
        generalize must E τ5 ⟨#[59]⟩ = τ8 at *
        have T8 := Lib.hid (T5.out.trans B0)
        have C8 := Lib.hid (show τ8.c = 0 → τ5.c = 0 from fun ec => by
          by_cases h : τ5.c = 0
          · exact h
          · rw [B0.2.2 h] at ec; exact absurd ec h)
        have L8 := Lib.hid (show τ8.c = 0 → τ8.l.length < σ.l.length from fun ec => Nat.lt_of_le_of_lt B0.2.1 (L5.out (C8.out ec)))
        clear hst hn8 B0 S5 F5 I5
        have y0 : w8.cell? ⟨X, 0, none⟩ = some (.int .i64 q0) := S8.out.bx.cell 0
        have y1 : w8.cell? ⟨X, 1, none⟩ = some (.int .i64 (q1 : Nat)) := S8.out.bx.cell 1
        have y2 : w8.cell? ⟨X, 2, none⟩ = some (.string q2) := S8.out.bx.cell 2
        have y3 : w8.cell? ⟨X, 3, none⟩ = some (.string q3) := S8.out.bx.cell 3
        have y4 : w8.cell? ⟨X, 4, none⟩ = some (.int .i64 q4) := S8.out.bx.cell 4
        have y5 : w8.cell? ⟨X, 5, none⟩ = some (.int .i64 q5) := S8.out.bx.cell 5
        have y6 : w8.cell? ⟨X, 6, none⟩ = some (.bool q6) := S8.out.bx.cell 6
        have y7 : w8.cell? ⟨X, 7, none⟩ = some (.bool q7) := S8.out.bx.cell 7
        have y8 : w8.cell? ⟨X, 8, none⟩ = some (.pointer p5) := S8.out.bx.cell 8
        have y9 : w8.cell? ⟨X, 9, none⟩ = some (.int .i64 q9) := S8.out.bx.cell 9
        have y10 : w8.cell? ⟨X, 10, none⟩ = some (.string q10) := S8.out.bx.cell 10
        have y11 : w8.cell? ⟨X, 11, none⟩ = some (.string q11) := S8.out.bx.cell 11
        have y12 : w8.cell? ⟨X, 12, none⟩ = some (.slice none 0 0) := S8.out.bx.cell 12
        have r0 : w8.cell? ⟨W.heap.size, 0, none⟩ = some (.int .i64 0) := S8.out.rx.cell 0
        have g0 := S8.out.rx.free 0
        have r1 : w8.cell? ⟨W.heap.size, 1, none⟩ = some (.int .i64 0) := S8.out.rx.cell 1
        have g1 := S8.out.rx.free 1
        have r2 : w8.cell? ⟨W.heap.size, 2, none⟩ = some (.string ⟨#[]⟩) := S8.out.rx.cell 2
        have g2 := S8.out.rx.free 2
        have r3 : w8.cell? ⟨W.heap.size, 3, none⟩ = some (.string ⟨#[]⟩) := S8.out.rx.cell 3
        have g3 := S8.out.rx.free 3
        have r4 : w8.cell? ⟨W.heap.size, 4, none⟩ = some (.int .i64 0) := S8.out.rx.cell 4
        have g4 := S8.out.rx.free 4
        have r5 : w8.cell? ⟨W.heap.size, 5, none⟩ = some (.int .i64 0) := S8.out.rx.cell 5
        have g5 := S8.out.rx.free 5
        have r6 : w8.cell? ⟨W.heap.size, 6, none⟩ = some (.bool false) := S8.out.rx.cell 6
        have g6 := S8.out.rx.free 6
        have r7 : w8.cell? ⟨W.heap.size, 7, none⟩ = some (.bool false) := S8.out.rx.cell 7
        have g7 := S8.out.rx.free 7
        have r8 : w8.cell? ⟨W.heap.size, 8, none⟩ = some (.pointer none) := S8.out.rx.cell 8
        have g8 := S8.out.rx.free 8
        have r9 : w8.cell? ⟨W.heap.size, 9, none⟩ = some (.int .i64 0) := S8.out.rx.cell 9
        have g9 := S8.out.rx.free 9
        have r10 : w8.cell? ⟨W.heap.size, 10, none⟩ = some (.string ⟨#[]⟩) := S8.out.rx.cell 10
        have g10 := S8.out.rx.free 10
        have r11 : w8.cell? ⟨W.heap.size, 11, none⟩ = some (.string ⟨#[]⟩) := S8.out.rx.cell 11
        have g11 := S8.out.rx.free 11
        have r12 : w8.cell? ⟨W.heap.size, 12, none⟩ = some (.slice none 0 0) := S8.out.rx.cell 12
        have g12 := S8.out.rx.free 12
        go_wp2_with fail
        have Q := Lib.hid (((((((((((((S8.out.rs.set 0 (.int .i64 q0)).set 1 (.int .i64 (q1 : Nat))).set 2 (.string q2)).set 3 (.string q3)).set 4 (.int .i64 q4)).set 5 (.int .i64 q5)).set 6 (.bool q6)).set 7 (.bool q7)).set 8 (.pointer p5)).set 9 (.int .i64 q9)).set 10 (.string q10)).set 11 (.string q11)).set 12 (.slice none 0 0))
        clear y0 r0 g0 y1 r1 g1 y2 r2 g2 y3 r3 g3 y4 r4 g4 y5 r5 g5 y6 r6 g6 y7 r7 g7 y8 r8 g8 y9 r9 g9 y10 r10 g10 y11 r11 g11 y12 r12 g12
        generalize (((((((((((((w8.setCell ⟨W.heap.size, 0, none⟩ (.int .i64 q0)).setCell ⟨W.heap.size, 1, none⟩ (.int .i64 (q1 : Nat))).setCell ⟨W.heap.size, 2, none⟩ (.string q2)).setCell ⟨W.heap.size, 3, none⟩ (.string q3)).setCell ⟨W.heap.size, 4, none⟩ (.int .i64 q4)).setCell ⟨W.heap.size, 5, none⟩ (.int .i64 q5)).setCell ⟨W.heap.size, 6, none⟩ (.bool q6)).setCell ⟨W.heap.size, 7, none⟩ (.bool q7)).setCell ⟨W.heap.size, 8, none⟩ (.pointer p5)).setCell ⟨W.heap.size, 9, none⟩ (.int .i64 q9)).setCell ⟨W.heap.size, 10, none⟩ (.string q10)).setCell ⟨W.heap.size, 11, none⟩ (.string q11)).setCell ⟨W.heap.size, 12, none⟩ (.slice none 0 0)) = w9 at *
        refine bodyPost_ret (item_results _ _ W.heap.size _ _ _ _ _ _ _ _ _ _ _ _ _ rfl Q.out.rx) rfl ?_
        refine ⟨τ8, .mk q0 q1 q2 q3 q4 q5 q6 q7 q8 q9 q10 q11 [], p5, .slice none 0 0, rfl, ⟨⟨_, Q.out.ps⟩, Q.out.gb⟩, T8.out, ⟨_, _, _, rfl⟩, fun ec => ?_, HJ.out⟩
        obtain ⟨x1, x2⟩ := F8.out (C8.out ec)
        exact ⟨by have := L8.out ec; simp only [ci, cl]; omega, x1, Q.out.itF S8.out.hX (itF_mk x2 (itsF_nil _ _))⟩
end
end Go.Proofs.YtkopjmofdnlplaaGreatDoor.Tm
