/-
  PROVED HERE: contracts of the document's RealNext, of reals that have a next one. Conditions: as each theorem states.
-/
import Derived.Test.YtifnochpmlllgaaDoorRows
import Derived.Test.YtifnochpmlllgaaDoorRealN
import Derived.Deep.RegionWith
import Derived.Deep.RegionHeld3
import Derived.Deep.DeepCutAuto
import Derived.Deep.DrawnRows
namespace Go.Proofs.YtifnochpmlllgaaDoor.Real
open Go.RowKit
attribute [local go_sem ↓] Go.wp_at_zero Go.wp_at_succ

set_option maxRecDepth 100000 in
set_option maxHeartbeats 4000000 in
theorem docNext_32_zero (b g c : Int) (N : Bool) (h0 : 0 ≤ b) (h1 : b ≤ 18446744073709551615) (hg : g = 1 ∨ g = -1) (hN : neg32 b = N) (hcl : cls 255 (exp32 b) (frac32 b) = c) (hc4 : c ≠ 4) (hc3 : c ≠ 3) (hS : N = !decide (g < 0)) (hz : b % 2147483648 = 0) (W : World) :
    Calls Tryd.prog 39 #[.int .u64 b, .int .i64 32, .int .i64 g] W fun e w' => e = .returned (.tuple #[.int .u64 (stepV 2147483648 N false (b % 2147483648)), .int .i64 0]) ∧ Below W.heap.size W w' := by
  have C := Lib.hid (fun W => docApart_32 b h0 h1 W)
  have D := Lib.hid (fun W => docClass_32 b h0 h1 W)
  have J := Lib.hid (fun (N' : Bool) (E' F' : Int) (a1 : 0 ≤ E') (a2 : E' < 256) (a3 : 0 ≤ F') (a4 : F' < 8388608) (W : World) => docJoin_32 N' E' F' a1 a2 a3 a4 W)
  have hE : exp32 b = 0 := by unfold exp32; omega
  have hF : frac32 b = 0 := by unfold frac32; omega
  rw [hcl] at D
  rw [hN, hE, hF] at C
  rw [hz]
  clear hN hz hE hF hcl
  have t2 : p2 23 = 8388608 := by decide
  have e4 : (c == 4) = false := by rw [beq_eq_false_iff_ne]; exact hc4
  have e3 : (c == 3) = false := by rw [beq_eq_false_iff_ne]; exact hc3
  have k1 : IntKind.u64.wrap 0 = 0 := by decide
  have k5 : IntKind.i64.wrap 0 = 0 := by decide
  have q1 : (0 : Int).tdiv 8388608 = 0 := by decide
  have q2 : (0 : Int).tmod 8388608 = 0 := by decide
  clear hc4 hc3
  have hv : stepV 2147483648 N false 0 = jn 8 23 (!N) 0 0 := by cases N <;> simp [jn, stepV]
  rw [hv]
  clear hv
  rcases hg with rfl | rfl
  · subst hS
    go_enter Tryd.func39, Tryd.ntmps39
    go_wp2_with fail
    refine (D.out _).mono ?_; rintro e w1 ⟨rfl, hb⟩
    have H1 := Lib.hid hb
    clear hb
    go_wp2_with fail
    refine (C.out _).mono ?_; rintro e w2 ⟨rfl, hb⟩
    have H2 := Lib.hid (H1.out.trans (hb.mono H1.out.size))
    clear hb
    go_wp2_with fail
    refine (docForm_32 _).mono ?_; rintro e w3 ⟨rfl, hw⟩
    have c0 := (congrArg (fun w : World => w.cell? ⟨w2.heap.size, 0, none⟩) hw).symm
    have c1 : w3.cell? ⟨w2.heap.size, 1, none⟩ = some (.int .i64 0) := by rw [← hw]; simp
    have c2 : w3.cell? ⟨w2.heap.size, 2, none⟩ = some (.int .u64 0) := by rw [← hw]; simp
    have f0 : w3.frozen? ⟨w2.heap.size, 0, none⟩ = false := by rw [← hw]; simp
    simp at c0
    have H3 := Lib.hid (show Below W.heap.size W w3 by rw [← hw]; exact H2.out.alloc H2.out.size _)
    have HZ := Lib.hid H2.out.size
    clear hw
    go_wp2_with fail
    go_quiet ((go_at_call 73; exact Calls.quiet_of_same (pow2_q _ (by omega) (by omega) _)))
    go_wp2_with fail
    obtain ⟨w4, hw4⟩ : ∃ w4, w4 = (w3.drewN nq).setCell ⟨w2.heap.size, 0, none⟩ (.bool false) := ⟨_, rfl⟩
    rw [← hw4]
    have g0 : w4.cell? ⟨w2.heap.size, 0, none⟩ = some (.bool false) := by rw [hw4]; exact World.cell?_setCell_same _ _ _ (u := _) ((show (w3.drewN nq).cell? ⟨w2.heap.size, 0, none⟩ = w3.cell? ⟨w2.heap.size, 0, none⟩ from rfl).trans c0)
    have H4 := Lib.hid (show Below W.heap.size W w4 by rw [hw4]; exact (below_drewN H3.out _).setCell (p := ⟨w2.heap.size, 0, none⟩) HZ.out _)
    clear hw4 c0 c1 c2 f0
    go_region_with (first | (go_at_call 73; refine (pow2_is 23 (by omega) (by omega) 8388608 (by decide) _).mono ?_; rintro e w' ⟨rfl, rfl⟩) | (go_at_call 86; refine (J.out _ _ _ (by omega) (by omega) (by omega) (by omega) _).mono ?_; rintro e w5 ⟨rfl, h5⟩; have H5 := Lib.hid h5; clear h5))
    all_goals go_wp2_with fail
    all_goals go_ret2
    all_goals exact ⟨rfl, (Below.drew H4.out).trans (H5.out.mono (by have := H4.out.size; simpa using this))⟩
  · subst hS
    go_enter Tryd.func39, Tryd.ntmps39
    go_wp2_with fail
    refine (D.out _).mono ?_; rintro e w1 ⟨rfl, hb⟩
    have H1 := Lib.hid hb
    clear hb
    go_wp2_with fail
    refine (C.out _).mono ?_; rintro e w2 ⟨rfl, hb⟩
    have H2 := Lib.hid (H1.out.trans (hb.mono H1.out.size))
    clear hb
    go_wp2_with fail
    refine (docForm_32 _).mono ?_; rintro e w3 ⟨rfl, hw⟩
    have c0 := (congrArg (fun w : World => w.cell? ⟨w2.heap.size, 0, none⟩) hw).symm
    have c1 : w3.cell? ⟨w2.heap.size, 1, none⟩ = some (.int .i64 0) := by rw [← hw]; simp
    have c2 : w3.cell? ⟨w2.heap.size, 2, none⟩ = some (.int .u64 0) := by rw [← hw]; simp
    have f0 : w3.frozen? ⟨w2.heap.size, 0, none⟩ = false := by rw [← hw]; simp
    simp at c0
    have H3 := Lib.hid (show Below W.heap.size W w3 by rw [← hw]; exact H2.out.alloc H2.out.size _)
    have HZ := Lib.hid H2.out.size
    clear hw
    go_wp2_with fail
    go_quiet ((go_at_call 73; exact Calls.quiet_of_same (pow2_q _ (by omega) (by omega) _)))
    go_wp2_with fail
    obtain ⟨w4, hw4⟩ : ∃ w4, w4 = (w3.drewN nq).setCell ⟨w2.heap.size, 0, none⟩ (.bool true) := ⟨_, rfl⟩
    rw [← hw4]
    have g0 : w4.cell? ⟨w2.heap.size, 0, none⟩ = some (.bool true) := by rw [hw4]; exact World.cell?_setCell_same _ _ _ (u := _) ((show (w3.drewN nq).cell? ⟨w2.heap.size, 0, none⟩ = w3.cell? ⟨w2.heap.size, 0, none⟩ from rfl).trans c0)
    have H4 := Lib.hid (show Below W.heap.size W w4 by rw [hw4]; exact (below_drewN H3.out _).setCell (p := ⟨w2.heap.size, 0, none⟩) HZ.out _)
    clear hw4 c0 c1 c2 f0
    go_region_with (first | (go_at_call 73; refine (pow2_is 23 (by omega) (by omega) 8388608 (by decide) _).mono ?_; rintro e w' ⟨rfl, rfl⟩) | (go_at_call 86; refine (J.out _ _ _ (by omega) (by omega) (by omega) (by omega) _).mono ?_; rintro e w5 ⟨rfl, h5⟩; have H5 := Lib.hid h5; clear h5))
    all_goals go_wp2_with fail
    all_goals go_ret2
    all_goals exact ⟨rfl, (Below.drew H4.out).trans (H5.out.mono (by have := H4.out.size; simpa using this))⟩
end Go.Proofs.YtifnochpmlllgaaDoor.Real
