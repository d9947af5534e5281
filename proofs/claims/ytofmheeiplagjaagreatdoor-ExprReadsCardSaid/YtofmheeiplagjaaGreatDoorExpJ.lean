/-
  PROVED HERE: the document's map of what ops make, made and asked. Conditions: as each theorem states.
-/
import Derived.Test.YtofmheeiplagjaaGreatDoorExpI
namespace Go.Proofs.YtofmheeiplagjaaGreatDoor.Tm
open Go.Maps Go.ChangeShapes Go.RowKit Go.Proofs.YtofmheeiplagjaaGreatDoor.Lex Go.Proofs.YtofmheeiplagjaaGreatDoor.Dig
/-- The map of numbers at block b: L. -/
def MV (w : World) (b n : Nat) (L : ByteArray → Int) : Prop := ∃ D : DataW Unit, w.ownsMap Tryz.prog 9 (plainElem Tryz.prog 3) b n D ∧ IsMap D ∧ ∀ x : ByteArray, D.atKey (.string x.data.toList) (.lit (.int .i64 0)) = .lit (.int .i64 (L x))
theorem mV_new (w : World) : MV (w.alloc (.map #[] 0)) w.heap.size 0 (fun _ => 0) :=
  ⟨.map [], World.ownsMap_made w _ _ _, (World.ownsMap_made w Tryz.prog 9 (plainElem (H := Unit) Tryz.prog 3)).isMap, fun _ => rfl⟩
theorem MV.block {w : World} {b n : Nat} {L : ByteArray → Int} (h : MV w b n L) : ∃ es c, w.heap[b]? = some (.map es c) := by
  obtain ⟨D, ⟨es, c, h, _⟩, _⟩ := h
  exact ⟨es, c, h⟩
theorem MV.lt {w : World} {b n : Nat} {L : ByteArray → Int} (h : MV w b n L) : b < w.heap.size := by
  obtain ⟨es, c, h⟩ := h.block
  exact (Array.getElem?_eq_some_iff.1 h).1
theorem MV.below {w w' : World} {b n : Nat} {L : ByteArray → Int} (h : MV w b n L) (hb : Below w.heap.size w w') : MV w' b n L := by
  have e := hb.block _ h.lt
  obtain ⟨D, ⟨es, c, h1, h2⟩, h3⟩ := h
  exact ⟨D, ⟨es, c, e.trans h1, h2⟩, h3⟩
set_option maxRecDepth 20000 in
theorem MV.get {w : World} {b n : Nat} {L : ByteArray → Int} (h : MV w b n L) (x : ByteArray) (hx : x.size ≤ 1000) : (Instr.lookup 22 (.map (some b)) (.string x) false).run Tryz.prog w = .ok (.int .i64 (L x)) w := by
  obtain ⟨D, h1, h2, h3⟩ := h
  obtain ⟨c, hrun, hat, _⟩ := h1.lookup_int keyedN Tryz.underlying22 Tryz.underlying3 (zeroIN w) (keyS x hx)
  rw [h3 x] at hat
  injection hat with hat
  injection hat with _ hat
  rw [hat]
  exact hrun
def putV (L : ByteArray → Int) (k : ByteArray) (v : Int) : ByteArray → Int := fun x => if x = k then v else L x
theorem MV.put {w : World} {b n : Nat} {L : ByteArray → Int} (h : MV w b n L) (hn : n ≤ 1000) (x : ByteArray) (hx : x.size ≤ 1000) (v : Int) (hv : (Lit.int .i64 v).wf = true) : ∃ w', (Instr.mapUpdate 22 (.map (some b)) (.string x) (.int .i64 v)).run Tryz.prog w = .ok () w' ∧ MV w' b (n + 1) (putV L x v) ∧ w.grownBy w' (some b) := by
  obtain ⟨D, h1, h2, h3⟩ := h
  obtain ⟨w', r1, r2, r3⟩ := h1.update keyedN Tryz.underlying22 (by unfold maxLen; omega) (keyS x hx) (plainElem_int (H := Unit) Tryz.underlying3 hv)
  refine ⟨w', r1, ⟨_, r2, h2.put _ _, fun y => ?_⟩, r3⟩
  show _ = DataW.lit (.int .i64 (if y = x then v else L y))
  by_cases e : y = x
  · subst e
    rw [if_pos rfl]
    exact atKey_put_same h2 (by trivial) _ _
  · rw [if_neg e, atKey_put_other (fun q => by injection q with q; exact e (by apply ByteArray.ext; exact Array.toList_inj.1 q))]
    exact h3 y
theorem truthI_wf (b : Bool) : (Lit.int .i64 (truthI b)).wf = true := by cases b <;> rfl
theorem bits_wf (o : BinOp) (a b : Int) : (Lit.int .i64 (bits o .i64 a b)).wf = true := by
  unfold bits
  exact wf_wrap .i64 _
/-- All that ops make of two numbers. -/
def allV (a b : Int) : ByteArray → Int := putV (putV (putV (putV (putV (putV (putV (putV (putV (fun _ => 0) ⟨#[43]⟩ (wrap64 (a + b))) ⟨#[45]⟩ (wrap64 (a - b))) ⟨#[42]⟩ (wrap64 (a * b))) ⟨#[38]⟩ (bits BinOp.and IntKind.i64 a b)) ⟨#[124]⟩ (bits BinOp.or IntKind.i64 a b)) ⟨#[61, 61]⟩ (truthI (a == b))) ⟨#[33, 61]⟩ (truthI (a != b))) ⟨#[60]⟩ (truthI (decide (a < b)))) ⟨#[62]⟩ (truthI (decide (b < a)))
theorem allV_op {op : ByteArray} (h : 0 < hold op) (a b : Int) : allV a b op = opI op a b := by
  rcases hold_ops h with rfl | rfl | rfl | rfl | rfl | rfl | rfl | rfl | rfl
  · rw [opI_0]; unfold allV putV; simp (decide := true)
  · rw [opI_1]; unfold allV putV; simp (decide := true)
  · rw [opI_2]; unfold allV putV; simp (decide := true)
  · rw [opI_3]; unfold allV putV; simp (decide := true)
  · rw [opI_4]; unfold allV putV; simp (decide := true)
  · rw [opI_5]; unfold allV putV; simp (decide := true)
  · rw [opI_6]; unfold allV putV; simp (decide := true)
  · rw [opI_7]; unfold allV putV; simp (decide := true)
  · rw [opI_8]; unfold allV putV; simp (decide := true)
theorem docOne_any (b : Bool) (W : World) : Calls Tryz.prog 33 #[.bool b] W fun e w' => e = .returned (.int .i64 (truthI b)) ∧ W = w' := by
  cases b
  · go_enter Tryz.func33, Tryz.ntmps33
    go_wp2_with fail
    go_ret
    exact ⟨rfl, rfl⟩
  · go_enter Tryz.func33, Tryz.ntmps33
    go_wp2_with fail
    go_ret
    exact ⟨rfl, rfl⟩
end Go.Proofs.YtofmheeiplagjaaGreatDoor.Tm
