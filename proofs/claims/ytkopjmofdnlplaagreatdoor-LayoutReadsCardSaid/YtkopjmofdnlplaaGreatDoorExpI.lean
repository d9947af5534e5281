/-
  PROVED HERE: what an expression comes to, and how it is written, as functions; the contract of the program's expr.Eval. Conditions: as each theorem states.
-/
import Derived.Test.YtkopjmofdnlplaaGreatDoorExpE
import Derived.Test.YtkopjmofdnlplaaGreatDoorDigD
import Derived.Test.YtkopjmofdnlplaaGreatDoorExpH
import Derived.Test.YtkopjmofdnlplaaGreatDoorExpF
import Derived.Test.YtkopjmofdnlplaaGreatDoorNms
import Derived.Test.YtkopjmofdnlplaaGreatDoorTmJ
import Derived.Test.YtkopjmofdnlplaaGreatDoorErrB
namespace Go.Proofs.YtkopjmofdnlplaaGreatDoor.Tm
open Go.RowKit Go.Proofs.YtkopjmofdnlplaaGreatDoor.Lex Go.Proofs.YtkopjmofdnlplaaGreatDoor.Dig
def truthI (b : Bool) : Int := if b then 1 else 0
/-- What an op makes of two numbers. -/
def opI (op : ByteArray) (a b : Int) : Int :=
  if op = ⟨#[43]⟩ then wrap64 (a + b) else if op = ⟨#[45]⟩ then wrap64 (a - b) else if op = ⟨#[42]⟩ then wrap64 (a * b)
  else if op = ⟨#[38]⟩ then bits BinOp.and IntKind.i64 a b else if op = ⟨#[124]⟩ then bits BinOp.or IntKind.i64 a b
  else if op = ⟨#[61, 61]⟩ then truthI (a == b) else if op = ⟨#[33, 61]⟩ then truthI (a != b) else if op = ⟨#[60]⟩ then truthI (decide (a < b)) else truthI (decide (b < a))
theorem opI_0 (a b : Int) : opI ⟨#[43]⟩ a b = wrap64 (a + b) := by unfold opI; rw [if_pos rfl]
theorem opI_1 (a b : Int) : opI ⟨#[45]⟩ a b = wrap64 (a - b) := by unfold opI; rw [if_neg (by decide), if_pos rfl]
theorem opI_2 (a b : Int) : opI ⟨#[42]⟩ a b = wrap64 (a * b) := by unfold opI; rw [if_neg (by decide), if_neg (by decide), if_pos rfl]
theorem opI_3 (a b : Int) : opI ⟨#[38]⟩ a b = bits BinOp.and IntKind.i64 a b := by unfold opI; rw [if_neg (by decide), if_neg (by decide), if_neg (by decide), if_pos rfl]
theorem opI_4 (a b : Int) : opI ⟨#[124]⟩ a b = bits BinOp.or IntKind.i64 a b := by unfold opI; rw [if_neg (by decide), if_neg (by decide), if_neg (by decide), if_neg (by decide), if_pos rfl]
theorem opI_5 (a b : Int) : opI ⟨#[61, 61]⟩ a b = truthI (a == b) := by unfold opI; rw [if_neg (by decide), if_neg (by decide), if_neg (by decide), if_neg (by decide), if_neg (by decide), if_pos rfl]
theorem opI_6 (a b : Int) : opI ⟨#[33, 61]⟩ a b = truthI (a != b) := by unfold opI; rw [if_neg (by decide), if_neg (by decide), if_neg (by decide), if_neg (by decide), if_neg (by decide), if_neg (by decide), if_pos rfl]
theorem opI_7 (a b : Int) : opI ⟨#[60]⟩ a b = truthI (decide (a < b)) := by unfold opI; rw [if_neg (by decide), if_neg (by decide), if_neg (by decide), if_neg (by decide), if_neg (by decide), if_neg (by decide), if_neg (by decide), if_pos rfl]
theorem opI_8 (a b : Int) : opI ⟨#[62]⟩ a b = truthI (decide (b < a)) := by unfold opI; rw [if_neg (by decide), if_neg (by decide), if_neg (by decide), if_neg (by decide), if_neg (by decide), if_neg (by decide), if_neg (by decide), if_neg (by decide)]
/-- The number, and what is wrong; f: the names' numbers. -/
def evalF (f : ByteArray → Int × Bool) : Ex → Int × (Int × Int)
  | .num _ n => (n, (0, -1))
  | .nam k s => if (f s).2 = true then ((f s).1, (0, -1)) else (0, (5, (k : Int)))
  | .bin _ op l r => if (evalF f l).2.1 ≠ 0 then (0, (evalF f l).2) else if (evalF f r).2.1 ≠ 0 then (0, (evalF f r).2) else (opI op (evalF f l).1 (evalF f r).1, (0, -1))
def Ex.isBin : Ex → Bool | .bin .. => true | _ => false
def Ex.op : Ex → ByteArray | .bin _ op _ _ => op | _ => emp
def numTxt (n : Int) : ByteArray := sle (n.emod 18446744073709551616).toNat 10 (cnt (n.emod 18446744073709551616).toNat 10 0)
def inB (b : Bool) (s : ByteArray) : ByteArray := if b then (⟨#[40]⟩ ++ s) ++ ⟨#[41]⟩ else s
/-- How an expression is written. -/
def textF : Ex → ByteArray
  | .num _ n => numTxt n
  | .nam _ s => s
  | .bin _ op l r => (((inB (decide (l.isBin = true ∧ hold l.op < hold op)) (textF l) ++ ⟨#[32]⟩) ++ op) ++ ⟨#[32]⟩) ++ inB (decide (r.isBin = true ∧ hold r.op < hold op + 1)) (textF r)
end Go.Proofs.YtkopjmofdnlplaaGreatDoor.Tm
namespace Go.Proofs.YtkopjmofdnlplaaGreatDoor.Tm
open Go.RowKit Go.Proofs.YtkopjmofdnlplaaGreatDoor.Lex Go.Proofs.YtkopjmofdnlplaaGreatDoor.Dig
theorem truth_any (b : Bool) (W : World) : Calls Tryz.prog 147 #[.bool b] W fun e w' => e = .returned (.int .i64 (truthI b)) ∧ W = w' := by
  cases b
  · go_enter Tryz.func147, Tryz.ntmps147
    go_wp2_with fail
    go_ret
    exact ⟨rfl, rfl⟩
  · go_enter Tryz.func147, Tryz.ntmps147
    go_wp2_with fail
    go_ret
    exact ⟨rfl, rfl⟩
def EvP (f : ByteArray → Int × Bool) (x : Ex) (W : World) (e : Ending) (w' : World) : Prop := ∃ ev, e = .returned (.tuple #[.int .i64 (evalF f x).1, ev]) ∧ Err.ErrIs w' ev (evalF f x).2.1 (evalF f x).2.2 ∧ ((evalF f x).2.1 = 0 → ev = .nilIface) ∧ Below W.heap.size W w'
theorem hold_ops {s : ByteArray} (h : 0 < hold s) : s = ⟨#[43]⟩ ∨ s = ⟨#[45]⟩ ∨ s = ⟨#[42]⟩ ∨ s = ⟨#[38]⟩ ∨ s = ⟨#[124]⟩ ∨ s = ⟨#[61, 61]⟩ ∨ s = ⟨#[33, 61]⟩ ∨ s = ⟨#[60]⟩ ∨ s = ⟨#[62]⟩ := by
  unfold hold at h
  split at h
  · rename_i h1; rcases h1 with h1 | h1 | h1 | h1 <;> simp [h1]
  split at h
  · rename_i h1; rcases h1 with h1 | h1 | h1 <;> simp [h1]
  split at h
  · rename_i h1; rcases h1 with h1 | h1 <;> simp [h1]
  omega
theorem bits_bds (b : BinOp) (x y : Int) (hb : b = .and ∨ b = .or) : -9223372036854775808 ≤ bits b IntKind.i64 x y ∧ bits b IntKind.i64 x y ≤ 9223372036854775807 := by
  have hw : ∀ n : Int, -9223372036854775808 ≤ IntKind.i64.wrap n ∧ IntKind.i64.wrap n ≤ 9223372036854775807 := fun n => by
    rw [IntKind.wrap_i64]
    omega
  rcases hb with rfl | rfl
  · exact hw ((BitVec.ofInt 64 x &&& BitVec.ofInt 64 y).toNat : Nat)
  · exact hw ((BitVec.ofInt 64 x ||| BitVec.ofInt 64 y).toNat : Nat)
theorem evalF_bds {f : ByteArray → Int × Bool} (hf : ∀ s : ByteArray, s.size ≤ 1000 → -9223372036854775808 ≤ (f s).1 ∧ (f s).1 ≤ 9223372036854775807) : ∀ x, ExOk x → -9223372036854775808 ≤ (evalF f x).1 ∧ (evalF f x).1 ≤ 9223372036854775807 := by
  have hw : ∀ n : Int, -9223372036854775808 ≤ wrap64 n ∧ wrap64 n ≤ 9223372036854775807 := fun n => by unfold wrap64; omega
  have hz : -9223372036854775808 ≤ (0 : Int) ∧ (0 : Int) ≤ 9223372036854775807 := by decide
  have ht : ∀ b : Bool, -9223372036854775808 ≤ truthI b ∧ truthI b ≤ 9223372036854775807 := fun b => by cases b <;> decide
  intro x
  induction x with
  | num k n => intro h; exact h.2
  | nam k s =>
    intro h
    unfold evalF
    split
    · exact hf s h.2
    · exact hz
  | bin k op l r =>
    intro _
    unfold evalF
    split
    · exact hz
    · split
      · exact hz
      · unfold opI
        repeat' split
        all_goals first | (with_reducible exact hw _) | (with_reducible exact ht _) | (with_reducible exact bits_bds _ _ _ (.inl rfl)) | (with_reducible exact bits_bds _ _ _ (.inr rfl))
set_option maxRecDepth 100000 in
set_option maxHeartbeats 4000000 in
theorem eval_any (f : ByteArray → Int × Bool) (mo : Option Nat) : ∀ (x : Ex) (v : Value) (W : World), ExOk x → ExAt W x v → Nms W mo f → Calls Tryz.prog 123 #[v, .map mo] W (EvP f x W) := by
  intro x
  induction x with
  | num k n =>
    rintro v W _ ⟨g, rfl, hg⟩ _
    have c0 : W.cell? ⟨g, 0, none⟩ = some (.int .i64 1) := box_cells (cs := [_, _, _, _, _, _, _]) hg 0 (by simp)
    have c2 : W.cell? ⟨g, 2, none⟩ = some (.int .i64 n) := box_cells (cs := [_, _, _, _, _, _, _]) hg 2 (by simp)
    clear hg
    go_enter Tryz.func123, Tryz.ntmps123
    go_wp2_with fail
    go_ret2
    exact ⟨_, rfl, .inl ⟨rfl, rfl, rfl⟩, fun _ => rfl, Below.refl _ _⟩
  | nam k s =>
    rintro v W ⟨_, hs⟩ ⟨g, rfl, hg⟩ hN
    have c0 : W.cell? ⟨g, 0, none⟩ = some (.int .i64 2) := box_cells (cs := [_, _, _, _, _, _, _]) hg 0 (by simp)
    have c1 : W.cell? ⟨g, 1, none⟩ = some (.int .i64 (k : Nat)) := box_cells (cs := [_, _, _, _, _, _, _]) hg 1 (by simp)
    have c3 : W.cell? ⟨g, 3, none⟩ = some (.string s) := box_cells (cs := [_, _, _, _, _, _, _]) hg 3 (by simp)
    have l0 := (hN W (Below.refl _ _) s hs).1
    clear hg hN
    obtain ⟨⟨a, b⟩, hf⟩ : ∃ q, f s = q := ⟨_, rfl⟩
    rw [hf] at l0
    simp only at l0
    cases b with
    | true =>
      have hR := Lib.hid (show evalF f (.nam k s) = (a, (0, -1)) by unfold evalF; rw [hf]; rfl)
      clear hf
      go_enter Tryz.func123, Tryz.ntmps123
      go_wp2_with fail
      go_ret2
      exact ⟨_, by rw [hR.out]; rfl, by rw [hR.out]; exact .inl ⟨rfl, rfl, rfl⟩, fun _ => rfl, Below.refl _ _⟩
    | false =>
      have hR := Lib.hid (show evalF f (.nam k s) = (0, (5, (k : Int))) by unfold evalF; rw [hf]; rfl)
      clear hf
      go_enter Tryz.func123, Tryz.ntmps123
      go_upto_region 7 with fail
      go_region
      go_wp2_with fail
      go_ret2
      refine ⟨_, by rw [hR.out]; rfl, ?_, fun h => absurd (by rw [hR.out] at h; exact h) (show ¬ (5 : Int) = 0 by decide), ((Below.refl _ _).alloc (Nat.le_refl _) _).drew⟩
      rw [hR.out]
      exact .inr (.inr ⟨W.heap.size, 0, rfl, by simp, by simp⟩)
  | bin k op l r ihl ihr =>
    rintro v W ⟨_, ho, okl, okr⟩ ⟨g, a, b, rfl, hg, xl, xr⟩ hN
    have c0 : W.cell? ⟨g, 0, none⟩ = some (.int .i64 3) := box_cells (cs := [_, _, _, _, _, _, _]) hg 0 (by simp)
    have c5 : W.cell? ⟨g, 5, none⟩ = some a := box_cells (cs := [_, _, _, _, _, _, _]) hg 5 (by simp)
    have CL := Lib.hid (ihl a W okl xl hN)
    have HG := Lib.hid hg
    have HO := Lib.hid (hold_ops ho)
    have CR := Lib.hid (fun w1 (hb : Below W.heap.size W w1) => ihr b w1 okr (ExAt.below hb r b xr) (hN.below hb))
    have HE := Lib.hid (show evalF f (.bin k op l r) = if (evalF f l).2.1 ≠ 0 then (0, (evalF f l).2) else if (evalF f r).2.1 ≠ 0 then (0, (evalF f r).2) else (opI op (evalF f l).1 (evalF f r).1, (0, -1)) from rfl)
    unfold EvP at CL CR
    unfold EvP
    generalize evalF f (.bin k op l r) = Q at *
    obtain ⟨⟨n1, e1, p1⟩, h1⟩ : ∃ q, evalF f l = q := ⟨_, rfl⟩
    obtain ⟨⟨n2, e2, p2⟩, h2⟩ : ∃ q, evalF f r = q := ⟨_, rfl⟩
    rw [h1] at CL HE
    rw [h2] at CR HE
    simp only at CL CR HE
    clear ihl ihr okl okr xl xr hN hg ho h1 h2
    by_cases z1 : e1 = 0
    · subst z1
      have HE := Lib.hid (HE.out.trans (if_neg (fun h => h rfl)))
      by_cases z2 : e2 = 0
      · subst z2
        have HE := Lib.hid (HE.out.trans (if_neg (fun h => h rfl)))
        go_enter Tryz.func123, Tryz.ntmps123
        go_wp2_with fail
        refine (CL.out).mono ?_; rintro e w1 ⟨ev, rfl, _, hz, hb⟩
        obtain rfl := hz (by trivial)
        have B1 := Lib.hid hb
        have g1 := (hb.block g (Array.getElem?_eq_some_iff.1 HG.out).1).trans HG.out
        have c6 : w1.cell? ⟨g, 6, none⟩ = some b := box_cells (cs := [_, _, _, _, _, _, _]) g1 6 (by simp)
        clear hb hz CL
        go_wp2_with fail
        refine (CR.out w1 B1.out).mono ?_; rintro e w2 ⟨ev, rfl, _, hz, hb⟩
        obtain rfl := hz (by trivial)
        have B2 := Lib.hid (B1.out.trans (hb.mono B1.out.size))
        have g2 := (hb.block g (Array.getElem?_eq_some_iff.1 g1).1).trans g1
        have c4 : w2.cell? ⟨g, 4, none⟩ = some (.string op) := box_cells (cs := [_, _, _, _, _, _, _]) g2 4 (by simp)
        clear hb hz g1 g2 CR HG
        rcases HO.out with rfl | rfl | rfl | rfl | rfl | rfl | rfl | rfl | rfl
        all_goals
          go_wp2_with fail
          try (refine (truth_any _ _).mono ?_; rintro e w3 ⟨rfl, rfl⟩; go_wp2_with fail)
          go_ret2
          refine ⟨_, ?_, by rw [HE.out]; exact .inl ⟨rfl, rfl, rfl⟩, fun _ => rfl, B2.out⟩
          rw [HE.out]
          first | (rw [opI_0]; rfl) | (rw [opI_1]; rfl) | (rw [opI_2]; rfl) | (rw [opI_3]; rfl) | (rw [opI_4]; rfl) | (rw [opI_5]; rfl) | (rw [opI_6]; rfl) | (rw [opI_7]; rfl) | (rw [opI_8]; rfl)
      · have HE := Lib.hid (HE.out.trans (if_pos z2))
        have Z2 := Lib.hid z2
        go_enter Tryz.func123, Tryz.ntmps123
        go_wp2_with fail
        refine (CL.out).mono ?_; rintro e w1 ⟨ev, rfl, _, hz, hb⟩
        obtain rfl := hz (by trivial)
        have B1 := Lib.hid hb
        have g1 := (hb.block g (Array.getElem?_eq_some_iff.1 HG.out).1).trans HG.out
        have c6 : w1.cell? ⟨g, 6, none⟩ = some b := box_cells (cs := [_, _, _, _, _, _, _]) g1 6 (by simp)
        clear hb hz CL
        go_wp2_with fail
        refine (CR.out w1 B1.out).mono ?_; rintro e w2 ⟨ev, rfl, hE, _, hb⟩
        obtain ⟨T, y, rfl⟩ := err_iface hE z2
        have HER := Lib.hid hE
        have B2 := Lib.hid (B1.out.trans (hb.mono B1.out.size))
        clear hb hE CR HG z2
        go_wp2_with fail
        go_ret2
        exact ⟨_, by rw [HE.out]; rfl, by rw [HE.out]; exact HER.out, fun h => absurd (by rw [HE.out] at h; exact h) Z2.out, B2.out⟩
    · have HE := Lib.hid (HE.out.trans (if_pos z1))
      have Z1 := Lib.hid z1
      go_enter Tryz.func123, Tryz.ntmps123
      go_wp2_with fail
      refine (CL.out).mono ?_; rintro e w1 ⟨ev, rfl, hE, _, hb⟩
      obtain ⟨T, y, rfl⟩ := err_iface hE z1
      have HER := Lib.hid hE
      have B1 := Lib.hid hb
      clear hb hE CL HG z1
      go_wp2_with fail
      go_ret2
      exact ⟨_, by rw [HE.out]; rfl, by rw [HE.out]; exact HER.out, fun h => absurd (by rw [HE.out] at h; exact h) Z1.out, B1.out⟩
end Go.Proofs.YtkopjmofdnlplaaGreatDoor.Tm
