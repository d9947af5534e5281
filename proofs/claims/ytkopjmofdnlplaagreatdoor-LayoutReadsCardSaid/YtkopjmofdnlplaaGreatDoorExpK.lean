/-
  PROVED HERE: the document's map of what ops make, made and asked; the contract of the document's ExprEval. Conditions: as each theorem states.
-/
import Derived.Test.YtkopjmofdnlplaaGreatDoorExpI
namespace Go.Proofs.YtkopjmofdnlplaaGreatDoor.Tm
open Go.Maps Go.ChangeShapes Go.RowKit Go.Proofs.YtkopjmofdnlplaaGreatDoor.Lex Go.Proofs.YtkopjmofdnlplaaGreatDoor.Dig
/-- The map of numbers at block b: L. -/
def MV (w : World) (b n : Nat) (L : ByteArray → Int) : Prop := ∃ D : DataW Unit, w.ownsMap Tryz.prog 9 (plainElem Tryz.prog 3) b n D ∧ IsMap D ∧ ∀ x : ByteArray, D.atKey (.string x.data.toList) (.lit (.int .i64 0)) = .lit (.int .i64 (L x))
theorem mV_new (w : World) : MV (w.alloc (.map #[] 0)) w.heap.size 0 (fun _ => 0) :=
  ⟨.map [], World.ownsMap_made w _ _ _, (World.ownsMap_made w Tryz.prog 9 (plainElem (H := Unit) Tryz.prog 3)).isMap, fun _ => rfl⟩
theorem MV.block {w : World} {b n : Nat} {L : ByteArray → Int} (h : MV w b n L) : ∃ es c, w.heap[b]? = some (.map es c) := by
  obtain ⟨D, ⟨es, c, h, _⟩, _⟩ := h
  exact ⟨es, c, h⟩
theorem MV.lt {w : World} {b n : Nat} {L : ByteArray → Int} (h : MV w b n L) : b < w.heap.size := by
  obtain ⟨es, c, h⟩ := h.block
  exact (Array.getElem?_eq_some_iff.1 h).1
theorem MV.below {w w' : World} {b n : Nat} {L : ByteArray → Int} (h : MV w b n L) (hb : Below w.heap.size w w') : MV w' b n L := by
  have e := hb.block _ h.lt
  obtain ⟨D, ⟨es, c, h1, h2⟩, h3⟩ := h
  exact ⟨D, ⟨es, c, e.trans h1, h2⟩, h3⟩
set_option maxRecDepth 20000 in
theorem MV.get {w : World} {b n : Nat} {L : ByteArray → Int} (h : MV w b n L) (x : ByteArray) (hx : x.size ≤ 1000) : (Instr.lookup 126 (.map (some b)) (.string x) false).run Tryz.prog w = .ok (.int .i64 (L x)) w := by
  obtain ⟨D, h1, h2, h3⟩ := h
  obtain ⟨c, hrun, hat, _⟩ := h1.lookup_int keyedN Tryz.underlying126 Tryz.underlying3 (zeroIN w) (keyS x hx)
  rw [h3 x] at hat
  injection hat with hat
  injection hat with _ hat
  rw [hat]
  exact hrun
def putV (L : ByteArray → Int) (k : ByteArray) (v : Int) : ByteArray → Int := fun x => if x = k then v else L x
theorem MV.put {w : World} {b n : Nat} {L : ByteArray → Int} (h : MV w b n L) (hn : n ≤ 1000) (x : ByteArray) (hx : x.size ≤ 1000) (v : Int) (hv : (Lit.int .i64 v).wf = true) : ∃ w', (Instr.mapUpdate 126 (.map (some b)) (.string x) (.int .i64 v)).run Tryz.prog w = .ok () w' ∧ MV w' b (n + 1) (putV L x v) ∧ w.grownBy w' (some b) := by
  obtain ⟨D, h1, h2, h3⟩ := h
  obtain ⟨w', r1, r2, r3⟩ := h1.update keyedN Tryz.underlying126 (by unfold maxLen; omega) (keyS x hx) (plainElem_int (H := Unit) Tryz.underlying3 hv)
  refine ⟨w', r1, ⟨_, r2, h2.put _ _, fun y => ?_⟩, r3⟩
  show _ = DataW.lit (.int .i64 (if y = x then v else L y))
  by_cases e : y = x
  · subst e
    rw [if_pos rfl]
    exact atKey_put_same h2 (by trivial) _ _
  · rw [if_neg e, atKey_put_other (fun q => by injection q with q; exact e (by apply ByteArray.ext; exact Array.toList_inj.1 q))]
    exact h3 y
theorem truthI_wf (b : Bool) : (Lit.int .i64 (truthI b)).wf = true := by cases b <;> rfl
theorem bits_wf (o : BinOp) (a b : Int) : (Lit.int .i64 (bits o .i64 a b)).wf = true := by
  unfold bits
  exact wf_wrap .i64 _
/-- All that ops make of two numbers. -/
def allV (a b : Int) : ByteArray → Int := putV (putV (putV (putV (putV (putV (putV (putV (putV (fun _ => 0) ⟨#[43]⟩ (wrap64 (a + b))) ⟨#[45]⟩ (wrap64 (a - b))) ⟨#[42]⟩ (wrap64 (a * b))) ⟨#[38]⟩ (bits BinOp.and IntKind.i64 a b)) ⟨#[124]⟩ (bits BinOp.or IntKind.i64 a b)) ⟨#[61, 61]⟩ (truthI (a == b))) ⟨#[33, 61]⟩ (truthI (a != b))) ⟨#[60]⟩ (truthI (decide (a < b)))) ⟨#[62]⟩ (truthI (decide (b < a)))
theorem allV_op {op : ByteArray} (h : 0 < hold op) (a b : Int) : allV a b op = opI op a b := by
  rcases hold_ops h with rfl | rfl | rfl | rfl | rfl | rfl | rfl | rfl | rfl
  · rw [opI_0]; unfold allV putV; simp (decide := true)
  · rw [opI_1]; unfold allV putV; simp (decide := true)
  · rw [opI_2]; unfold allV putV; simp (decide := true)
  · rw [opI_3]; unfold allV putV; simp (decide := true)
  · rw [opI_4]; unfold allV putV; simp (decide := true)
  · rw [opI_5]; unfold allV putV; simp (decide := true)
  · rw [opI_6]; unfold allV putV; simp (decide := true)
  · rw [opI_7]; unfold allV putV; simp (decide := true)
  · rw [opI_8]; unfold allV putV; simp (decide := true)
theorem docOne_any (b : Bool) (W : World) : Calls Tryz.prog 145 #[.bool b] W fun e w' => e = .returned (.int .i64 (truthI b)) ∧ W = w' := by
  cases b
  · go_enter Tryz.func145, Tryz.ntmps145
    go_wp2_with fail
    go_ret
    exact ⟨rfl, rfl⟩
  · go_enter Tryz.func145, Tryz.ntmps145
    go_wp2_with fail
    go_ret
    exact ⟨rfl, rfl⟩
end Go.Proofs.YtkopjmofdnlplaaGreatDoor.Tm
namespace Go.Proofs.YtkopjmofdnlplaaGreatDoor.Tm
open Go.RowKit Go.Proofs.YtkopjmofdnlplaaGreatDoor.Lex Go.Proofs.YtkopjmofdnlplaaGreatDoor.Dig
theorem ev_results (tmps : Array Value) (w : World) (g : Nat) (v0 v1 : Value) (h3 : tmps.getD 5 undef = .pointer (some ⟨g, 0, none⟩)) (c0 : w.cell? ⟨g, 0, none⟩ = some v0) (c1 : w.cell? ⟨g, 1, none⟩ = some v1) :
    (results Tryz.f120 tmps).run Tryz.prog w = .ok (.tuple #[tmps.getD 4 undef, .agg #[v0, v1]]) w := by
  have h3' : tmps[5]?.getD undef = .pointer (some ⟨g, 0, none⟩) := by simpa using h3
  simp only [results, Tryz.f120]
  simp [go_sem, h3', c0, c1]
/-- The memory: the box of what is wrong. -/
structure EB (W w : World) : Prop where
  bl : Below W.heap.size W w
  er : ∃ a b : Int, w.heap[W.heap.size]? = some (.cells #[.int .i64 a, .int .i64 b] 30)
theorem EB.start (W : World) : EB W (W.alloc (.cells #[.int .i64 0, .int .i64 0] 30)) := ⟨(Below.refl _ _).alloc (Nat.le_refl _) _, 0, 0, heap_alloc_new _ _⟩
theorem EB.lt {W w : World} (h : EB W w) : W.heap.size < w.heap.size := by
  obtain ⟨a, b, e⟩ := h.er
  exact (Array.getElem?_eq_some_iff.1 e).1
theorem EB.below {W w w' : World} (h : EB W w) (hb : Below w.heap.size w w') : EB W w' := by
  obtain ⟨a, b, e⟩ := h.er
  exact ⟨h.bl.trans (hb.mono h.bl.size), a, b, (hb.block _ (Array.getElem?_eq_some_iff.1 e).1).trans e⟩
theorem EB.cells {W w : World} (h : EB W w) : ∃ a b : Int, w.cell? ⟨W.heap.size, 0, none⟩ = some (.int .i64 a) ∧ w.cell? ⟨W.heap.size, 1, none⟩ = some (.int .i64 b) ∧ ∀ j, w.frozen? ⟨W.heap.size, j, none⟩ = false := by
  obtain ⟨a, b, e⟩ := h.er
  exact ⟨a, b, by unfold World.cell?; rw [e]; rfl, by unfold World.cell?; rw [e]; rfl, fun j => by unfold World.frozen?; rw [e]; rfl⟩
theorem EB.fin {W w : World} (h : EB W w) (a b : Value) : Below W.heap.size W ((w.setCell ⟨W.heap.size, 0, none⟩ a).setCell ⟨W.heap.size, 1, none⟩ b) := below_set_at (below_set_at h.bl (Nat.le_refl _)) (Nat.le_refl _)
theorem EB.off {W w : World} (h : EB W w) {c : Nat} (hc : W.heap.size ≠ c) (hc2 : W.heap.size ≤ c) (j : Nat) (v : Value) : EB W (w.setCell ⟨c, j, none⟩ v) := by
  obtain ⟨a, b, e⟩ := h.er
  exact ⟨below_set_at h.bl hc2, a, b, (Below.heap_setCell _ _ _ _ hc).trans e⟩
theorem EB.grown {W w w' : World} (h : EB W w) {c : Nat} (hc : W.heap.size < c) (hg : w.grownBy w' (some c)) : EB W w' := by
  obtain ⟨a, b, e⟩ := h.er
  exact ⟨h.bl.trans ⟨hg.os, hg.tape, hg.output, hg.size, fun k hk => hg.block k (Nat.lt_of_lt_of_le hk h.bl.size) (fun e => by injection e; omega)⟩, a, b, (hg.block _ h.lt (fun e => by injection e; omega)).trans e⟩
theorem set_two {w : World} {c : Nat} {a b x y : Value} {t : TypeId} (h : w.heap[c]? = some (.cells #[a, b] t)) : ((w.setCell ⟨c, 0, none⟩ x).setCell ⟨c, 1, none⟩ y).heap[c]? = some (.cells #[x, y] t) := by
  simp [World.setCell, Array.getElem?_modify, h]
def DvP (f : ByteArray → Int × Bool) (x : Ex) (W : World) (e : Ending) (w' : World) : Prop := e = .returned (.tuple #[.int .i64 (evalF f x).1, .agg #[.int .i64 (evalF f x).2.1, .int .i64 (evalF f x).2.2]]) ∧ Below W.heap.size W w'
set_option maxRecDepth 100000 in
set_option maxHeartbeats 8000000 in
theorem docEval_any (f : ByteArray → Int × Bool) (mo : Option Nat) : ∀ (x : Ex) (v : Value) (W : World), ExOk x → ExAt W x v → Nms W mo f → Calls Tryz.prog 120 #[v, .map mo] W (DvP f x W) := by
  intro x
  induction x with
  | num k n =>
    rintro v W _ ⟨g, rfl, hg⟩ _
    have S := Lib.hid (EB.start W)
    have g0 := (S.out.bl.block g (Array.getElem?_eq_some_iff.1 hg).1).trans hg
    have G0 := Lib.hid g0
    clear hg g0
    go_enter Tryz.func120, Tryz.ntmps120
    go_upto_region 1 with fail
    generalize W.alloc (.cells #[.int .i64 0, .int .i64 0] 30) = w0 at *
    have c0 : w0.cell? ⟨g, 0, none⟩ = some (.int .i64 1) := box_cells (cs := [_, _, _, _, _, _, _]) G0.out 0 (by simp)
    have c2 : w0.cell? ⟨g, 2, none⟩ = some (.int .i64 n) := box_cells (cs := [_, _, _, _, _, _, _]) G0.out 2 (by simp)
    have c2d : w0.drew.cell? ⟨g, 2, none⟩ = some (.int .i64 n) := c2
    have S0 := Lib.hid (show EB W w0.drew from S.out.below ((Below.refl _ _).drew))
    go_upto_region 3 with fail
    go_region_with (go_at_call 34; refine (good_any _).mono ?_; rintro e w3 ⟨rfl, hb3⟩; have z2 : w3.cell? ⟨g, 2, none⟩ = some (.int .i64 n) := keepCell hb3 c2d; have S3 := Lib.hid (S0.out.below hb3); obtain ⟨a, b, q0, q1, p0⟩ := S3.out.cells; clear hb3)
    all_goals
      go_wp2_with fail
      refine bodyPost_ret (ev_results _ _ W.heap.size (.int .i64 0) (.int .i64 (-1)) rfl (by go_simp) (by go_simp)) rfl ?_
      exact ⟨rfl, S3.out.fin _ _⟩
  | nam k s =>
    rintro v W ⟨_, hs⟩ ⟨g, rfl, hg⟩ hN
    have S := Lib.hid (EB.start W)
    have g0 := (S.out.bl.block g (Array.getElem?_eq_some_iff.1 hg).1).trans hg
    have G0 := Lib.hid g0
    have l0 := (hN _ S.out.bl s hs).1
    clear hg g0 hN
    go_enter Tryz.func120, Tryz.ntmps120
    go_upto_region 1 with fail
    generalize W.alloc (.cells #[.int .i64 0, .int .i64 0] 30) = w0 at *
    have c0 : w0.cell? ⟨g, 0, none⟩ = some (.int .i64 2) := box_cells (cs := [_, _, _, _, _, _, _]) G0.out 0 (by simp)
    have c1 : w0.cell? ⟨g, 1, none⟩ = some (.int .i64 (k : Nat)) := box_cells (cs := [_, _, _, _, _, _, _]) G0.out 1 (by simp)
    have c3 : w0.cell? ⟨g, 3, none⟩ = some (.string s) := box_cells (cs := [_, _, _, _, _, _, _]) G0.out 3 (by simp)
    obtain ⟨⟨a, b⟩, hf⟩ : ∃ q, f s = q := ⟨_, rfl⟩
    rw [hf] at l0
    simp only at l0
    cases b with
    | true =>
      have hR := Lib.hid (show evalF f (.nam k s) = (a, (0, -1)) by unfold evalF; rw [hf]; rfl)
      clear hf
      go_wp2_with fail
      refine (good_any _).mono ?_; rintro e w3 ⟨rfl, hb3⟩
      have S3 := Lib.hid (S.out.below hb3)
      obtain ⟨a', b', q0, q1, p0⟩ := S3.out.cells
      clear hb3
      go_wp2_with fail
      refine bodyPost_ret (ev_results _ _ W.heap.size (.int .i64 0) (.int .i64 (-1)) rfl (by go_simp) (by go_simp)) rfl ?_
      exact ⟨by rw [hR.out]; rfl, S3.out.fin _ _⟩
    | false =>
      have hR := Lib.hid (show evalF f (.nam k s) = (0, (5, (k : Int))) by unfold evalF; rw [hf]; rfl)
      obtain ⟨a', b', q0, q1, p0⟩ := S.out.cells
      clear hf
      go_upto_region 7 with fail
      go_region
      go_wp2_with fail
      refine bodyPost_ret (ev_results _ _ W.heap.size (.int .i64 5) (.int .i64 (k : Nat)) rfl (by go_simp) (by go_simp)) rfl ?_
      exact ⟨by rw [hR.out]; rfl, (S.out.fin _ _).drew⟩
  | bin k op l r ihl ihr =>
    rintro v W ⟨_, ho, okl, okr⟩ ⟨g, a, b, rfl, hg, xl, xr⟩ hN
    have S := Lib.hid (EB.start W)
    have g0 := (S.out.bl.block g (Array.getElem?_eq_some_iff.1 hg).1).trans hg
    have G0 := Lib.hid g0
    have CL := Lib.hid (ihl a _ okl (ExAt.below S.out.bl l a xl) (hN.below S.out.bl))
    have CR := Lib.hid (fun w1 (hb : Below W.heap.size W w1) => ihr b w1 okr (ExAt.below hb r b xr) (hN.below hb))
    have HO := Lib.hid ho
    have HE := Lib.hid (show evalF f (.bin k op l r) = if (evalF f l).2.1 ≠ 0 then (0, (evalF f l).2) else if (evalF f r).2.1 ≠ 0 then (0, (evalF f r).2) else (opI op (evalF f l).1 (evalF f r).1, (0, -1)) from rfl)
    unfold DvP at CL CR
    generalize hQ : evalF f (.bin k op l r) = Q at *
    have HQ := Lib.hid hQ
    obtain ⟨⟨n1, e1, p1⟩, h1⟩ : ∃ q, evalF f l = q := ⟨_, rfl⟩
    obtain ⟨⟨n2, e2, p2⟩, h2⟩ : ∃ q, evalF f r = q := ⟨_, rfl⟩
    rw [h1] at CL HE
    rw [h2] at CR HE
    simp only at CL CR HE
    clear ihl ihr okl okr xl xr hN hg ho h1 h2 g0 hQ
    go_enter Tryz.func120, Tryz.ntmps120
    go_upto_region 1 with fail
    generalize W.alloc (.cells #[.int .i64 0, .int .i64 0] 30) = w0 at *
    have c0 : w0.cell? ⟨g, 0, none⟩ = some (.int .i64 3) := box_cells (cs := [_, _, _, _, _, _, _]) G0.out 0 (by simp)
    have c5 : w0.cell? ⟨g, 5, none⟩ = some a := box_cells (cs := [_, _, _, _, _, _, _]) G0.out 5 (by simp)
    go_wp2_with fail
    refine (CL.out).mono ?_; rintro e w1 ⟨rfl, hb⟩
    have S1 := Lib.hid (S.out.below hb)
    have g1 := Lib.hid ((hb.block g (Array.getElem?_eq_some_iff.1 G0.out).1).trans G0.out)
    clear hb CL c0 c5 G0 S
    go_upto_region 10 with fail
    have bA : Below w1.heap.size w1 (w1.alloc (.cells #[.int .i64 e1, .int .i64 p1] 30)) := (Below.refl _ _).alloc (Nat.le_refl _) _
    have fA : (w1.alloc (.cells #[.int .i64 e1, .int .i64 p1] 30)).heap[w1.heap.size]? = some (.cells #[.int .i64 e1, .int .i64 p1] 30) := heap_alloc_new _ _
    generalize w1.alloc (.cells #[.int .i64 e1, .int .i64 p1] 30) = w2 at *
    have hB9 := S1.out.lt
    have g2 := (bA.block g (Array.getElem?_eq_some_iff.1 g1.out).1).trans g1.out
    have hg9 : g < w1.heap.size := (Array.getElem?_eq_some_iff.1 g1.out).1
    have S2 := Lib.hid (S1.out.below bA)
    obtain ⟨B9, h9⟩ : ∃ B, w1.heap.size = B := ⟨_, rfl⟩
    rw [h9] at fA hB9 hg9 ⊢
    have y0 : w2.cell? ⟨B9, 0, none⟩ = some (.int .i64 e1) := by unfold World.cell?; rw [fA]; rfl
    have y1 : w2.cell? ⟨B9, 1, none⟩ = some (.int .i64 p1) := by unfold World.cell?; rw [fA]; rfl
    have F2 := Lib.hid fA
    clear bA fA S1 g1 h9
    go_wp2_with fail
    refine (is_any e1 p1 _).mono ?_; rintro e w3 ⟨rfl, hb⟩
    have S3 := Lib.hid (S2.out.below hb)
    have F3 := Lib.hid ((hb.block _ (Array.getElem?_eq_some_iff.1 F2.out).1).trans F2.out)
    have G3 := Lib.hid ((hb.block _ (Array.getElem?_eq_some_iff.1 g2).1).trans g2)
    have x0 := keepCell hb y0
    have x1 := keepCell hb y1
    clear hb y0 y1 F2 S2 g2
    by_cases z1 : e1 = 0
    · subst z1
      have HE := Lib.hid (HE.out.trans (if_neg (fun h => h rfl)))
      rw [show ((0 : Int) == 0) = true from rfl]
      have c6 : w3.cell? ⟨g, 6, none⟩ = some b := box_cells (cs := [_, _, _, _, _, _, _]) G3.out 6 (by simp)
      have x2 : ∀ j, w3.frozen? ⟨B9, j, none⟩ = false := fun j => by unfold World.frozen?; rw [F3.out]; rfl
      go_wp2_with fail
      refine (CR.out w3 S3.out.bl).mono ?_; rintro e w4 ⟨rfl, hb⟩
      have S4 := Lib.hid (S3.out.below hb)
      have F4 := Lib.hid ((hb.block _ (Array.getElem?_eq_some_iff.1 F3.out).1).trans F3.out)
      have G4 := Lib.hid ((hb.block _ (Array.getElem?_eq_some_iff.1 G3.out).1).trans G3.out)
      have q0 : w4.cell? ⟨B9, 0, none⟩ = some (.int .i64 0) := by unfold World.cell?; rw [F4.out]; rfl
      have q1 : w4.cell? ⟨B9, 1, none⟩ = some (.int .i64 p1) := by unfold World.cell?; rw [F4.out]; rfl
      have q2 : ∀ j, w4.frozen? ⟨B9, j, none⟩ = false := fun j => by unfold World.frozen?; rw [F4.out]; rfl
      clear hb x0 x1 x2 c6 F3 S3 G3 CR
      go_upto_region 13 with fail
      have F5 := Lib.hid (set_two (x := .int .i64 e2) (y := .int .i64 p2) F4.out)
      have hgB : g ≠ B9 := Nat.ne_of_lt hg9
      have G5 := Lib.hid ((Below.heap_setCell (w4.setCell ⟨B9, 0, none⟩ (.int .i64 e2)) ⟨B9, 1, none⟩ (.int .i64 p2) g hgB).trans ((Below.heap_setCell w4 ⟨B9, 0, none⟩ (.int .i64 e2) g hgB).trans G4.out))
      have S5 := Lib.hid ((S4.out.off (Nat.ne_of_lt hB9) (Nat.le_of_lt hB9) 0 (.int .i64 e2)).off (Nat.ne_of_lt hB9) (Nat.le_of_lt hB9) 1 (.int .i64 p2))
      clear q0 q1 q2 F4 G4 S4
      generalize (w4.setCell ⟨B9, 0, none⟩ (.int .i64 e2)).setCell ⟨B9, 1, none⟩ (.int .i64 p2) = w5 at *
      have y0 : w5.cell? ⟨B9, 0, none⟩ = some (.int .i64 e2) := by unfold World.cell?; rw [F5.out]; rfl
      have y1 : w5.cell? ⟨B9, 1, none⟩ = some (.int .i64 p2) := by unfold World.cell?; rw [F5.out]; rfl
      go_wp2_with fail
      refine (is_any e2 p2 _).mono ?_; rintro e w6 ⟨rfl, hb⟩
      have S6 := Lib.hid (S5.out.below hb)
      have G6 := Lib.hid ((hb.block _ (Array.getElem?_eq_some_iff.1 G5.out).1).trans G5.out)
      have x0 := keepCell hb y0
      have x1 := keepCell hb y1
      clear hb y0 y1 F5 S5 G5
      by_cases z2 : e2 = 0
      · subst z2
        have HE := Lib.hid (HE.out.trans (if_neg (fun h => h rfl)))
        rw [show ((0 : Int) == 0) = true from rfl]
        have hmm := @run_makeMap Tryz.prog
        have m0 := mV_new w6
        have bm : Below w6.heap.size w6 (w6.alloc (.map #[] 0)) := (Below.refl _ _).alloc (Nat.le_refl _) _
        have S7 := S6.out.below bm
        have G7 := (bm.block _ (Array.getElem?_eq_some_iff.1 G6.out).1).trans G6.out
        have hWm := S6.out.lt
        have hgm := (Array.getElem?_eq_some_iff.1 G6.out).1
        obtain ⟨wa, ea, ma, ga⟩ := m0.put (by omega) ⟨#[43]⟩ (by decide) (wrap64 (n1 + n2)) (wrap64_wf _)
        obtain ⟨wb, eb, mb, gb⟩ := ma.put (by omega) ⟨#[45]⟩ (by decide) (wrap64 (n1 - n2)) (wrap64_wf _)
        obtain ⟨wc, ec, mc, gc⟩ := mb.put (by omega) ⟨#[42]⟩ (by decide) (wrap64 (n1 * n2)) (wrap64_wf _)
        obtain ⟨wd, ed, md, gd⟩ := mc.put (by omega) ⟨#[38]⟩ (by decide) (bits BinOp.and IntKind.i64 n1 n2) (bits_wf _ _ _)
        obtain ⟨we, ee, me, ge⟩ := md.put (by omega) ⟨#[124]⟩ (by decide) (bits BinOp.or IntKind.i64 n1 n2) (bits_wf _ _ _)
        obtain ⟨wf, ef, mf, gf⟩ := me.put (by omega) ⟨#[61, 61]⟩ (by decide) (truthI (n1 == n2)) (truthI_wf _)
        obtain ⟨wg, eg, mg, gg⟩ := mf.put (by omega) ⟨#[33, 61]⟩ (by decide) (truthI (n1 != n2)) (truthI_wf _)
        obtain ⟨wh, eh, mh, gh⟩ := mg.put (by omega) ⟨#[60]⟩ (by decide) (truthI (decide (n1 < n2))) (truthI_wf _)
        obtain ⟨wi, ei, mi, gi⟩ := mh.put (by omega) ⟨#[62]⟩ (by decide) (truthI (decide (n2 < n1))) (truthI_wf _)
        have gA := gb_trans (gb_trans (gb_trans (gb_trans (gb_trans (gb_trans (gb_trans (gb_trans ga gb) gc) gd) ge) gf) gg) gh) gi
        have MI := Lib.hid (show MV wi w6.heap.size _ (allV n1 n2) from mi)
        have S8 := Lib.hid (S7.grown hWm gA)
        have G8 := Lib.hid ((gA.block g (Array.getElem?_eq_some_iff.1 G7).1 (fun e => by injection e; omega)).trans G7)
        clear ma mb mc md me mf mg mh mi m0 ga gb gc gd ge gf gg gh gi gA G7 S7 bm x0 x1 S6 G6
        go_wp2_with fail
        refine (docOne_any _ _).mono ?_; rintro e wx ⟨rfl, rfl⟩
        go_wp2_with fail
        refine (docOne_any _ _).mono ?_; rintro e wx ⟨rfl, rfl⟩
        go_wp2_with fail
        refine (docOne_any _ _).mono ?_; rintro e wx ⟨rfl, rfl⟩
        go_wp2_with fail
        refine (docOne_any _ _).mono ?_; rintro e wx ⟨rfl, rfl⟩
        go_upto_region 16 with fail
        clear ea eb ec ed ee ef eg eh ei
        generalize w6.heap.size = Bm at *
        have z4 : wi.drew.cell? ⟨g, 4, none⟩ = some (.string op) := box_cells (cs := [_, _, _, _, _, _, _]) G8.out 4 (by simp)
        have MD := Lib.hid (MI.out.below ((Below.refl _ _).drew))
        have SD := Lib.hid (S8.out.below ((Below.refl _ _).drew))
        have hop : op.size ≤ 1000 := by
          rcases hold_ops HO.out with rfl | rfl | rfl | rfl | rfl | rfl | rfl | rfl | rfl <;> decide
        have lk := MD.out.get op hop
        have LK := Lib.hid (fun w' (hb : Below wi.drew.heap.size wi.drew w') => (MD.out.below hb).get op hop)
        obtain ⟨Z, hZ⟩ : ∃ Z, allV n1 n2 op = Z := ⟨_, rfl⟩
        rw [hZ] at lk LK
        have HZ := Lib.hid (HE.out.trans (show _ = (Z, ((0 : Int), (-1 : Int))) by rw [← hZ, allV_op HO.out]))
        clear hZ MI MD S8 G8 hop
        go_region_with (go_at_call 34; refine (good_any _).mono ?_; rintro e w3 ⟨rfl, hb3⟩; have z5 : w3.cell? ⟨g, 4, none⟩ = some (.string op) := keepCell hb3 z4; have lk2 := LK.out w3 hb3; have S3 := Lib.hid (SD.out.below hb3); obtain ⟨a, b, q0, q1, p0⟩ := S3.out.cells; clear hb3)
        all_goals
          go_wp2_with fail
          refine bodyPost_ret (ev_results _ _ W.heap.size (.int .i64 0) (.int .i64 (-1)) rfl (by go_simp) (by go_simp)) rfl ?_
          exact ⟨by rw [HQ.out, HZ.out]; rfl, S3.out.fin _ _⟩
      · have HE := Lib.hid (HE.out.trans (if_pos z2))
        have e0 : (e2 == 0) = false := by rw [beq_eq_false_iff_ne]; exact z2
        obtain ⟨a', b', q0, q1, p0⟩ := S6.out.cells
        rw [e0]
        go_upto_region 14 with fail
        go_region
        go_wp2_with fail
        refine bodyPost_ret (ev_results _ _ W.heap.size (.int .i64 e2) (.int .i64 p2) rfl (by go_simp) (by go_simp)) rfl ?_
        exact ⟨by rw [HQ.out, HE.out]; rfl, (S6.out.fin _ _).drew⟩
    · have HE := Lib.hid (HE.out.trans (if_pos z1))
      have e0 : (e1 == 0) = false := by rw [beq_eq_false_iff_ne]; exact z1
      obtain ⟨a', b', q0, q1, p0⟩ := S3.out.cells
      rw [e0]
      go_upto_region 11 with fail
      go_region
      go_wp2_with fail
      refine bodyPost_ret (ev_results _ _ W.heap.size (.int .i64 e1) (.int .i64 p1) rfl (by go_simp) (by go_simp)) rfl ?_
      exact ⟨by rw [HQ.out, HE.out]; rfl, (S3.out.fin _ _).drew⟩
end Go.Proofs.YtkopjmofdnlplaaGreatDoor.Tm
