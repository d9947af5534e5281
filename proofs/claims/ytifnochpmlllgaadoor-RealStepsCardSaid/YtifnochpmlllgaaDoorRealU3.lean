/-
  PROVED HERE: contracts of the document's RealNext, of reals that have a next one. Conditions: as each theorem states.
-/
import Derived.Test.YtifnochpmlllgaaDoorRows
import Derived.Test.YtifnochpmlllgaaDoorRealN
import Derived.Deep.RegionWith
import Derived.Deep.RegionHeld3
import Derived.Deep.DeepCutAuto
import Derived.Deep.DrawnRows
namespace Go.Proofs.YtifnochpmlllgaaDoor.Real
open Go.RowKit
attribute [local go_sem ↓] Go.wp_at_zero Go.wp_at_succ

set_option maxRecDepth 100000 in
set_option maxHeartbeats 4000000 in
theorem docNext_32_in (b g c : Int) (N : Bool) (h0 : 0 ≤ b) (h1 : b ≤ 18446744073709551615) (hg : g = 1 ∨ g = -1) (hN : neg32 b = N) (hcl : cls 255 (exp32 b) (frac32 b) = c) (hc4 : c ≠ 4) (hS : N = !decide (g < 0)) (hz : 0 < b % 2147483648) (W : World) :
    Calls Tryd.prog 39 #[.int .u64 b, .int .i64 32, .int .i64 g] W fun e w' => e = .returned (.tuple #[.int .u64 (stepV 2147483648 N false (b % 2147483648)), .int .i64 0]) ∧ Below W.heap.size W w' := by
  have C := Lib.hid (fun W => docApart_32 b h0 h1 W)
  have D := Lib.hid (fun W => docClass_32 b h0 h1 W)
  have J := Lib.hid (fun (N' : Bool) (E' F' : Int) (a1 : 0 ≤ E') (a2 : E' < 256) (a3 : 0 ≤ F') (a4 : F' < 8388608) (W : World) => docJoin_32 N' E' F' a1 a2 a3 a4 W)
  have hs : b % 2147483648 = exp32 b * 8388608 + frac32 b := by unfold exp32 frac32; omega
  obtain ⟨he0, he1⟩ := exp32_bd b
  obtain ⟨hf0, hf1⟩ := frac32_bd b
  rw [hcl] at D
  rw [hN] at C
  rw [hs] at hz ⊢
  clear hN hs
  generalize exp32 b = E at *
  generalize frac32 b = F at *
  have t2 : p2 23 = 8388608 := by decide
  have k1 : IntKind.u64.wrap E = E := by rw [IntKind.wrap_u64]; omega
  have k2 : IntKind.u64.wrap (E * 8388608) = E * 8388608 := by rw [IntKind.wrap_u64]; omega
  have k3 : IntKind.u64.wrap (E * 8388608 + F) = E * 8388608 + F := by rw [IntKind.wrap_u64]; omega
  have e4 : (c == 4) = false := by rw [beq_eq_false_iff_ne]; exact hc4
  clear hcl hc4
  have k4 : IntKind.u64.wrap (E * 8388608 + F - 1) = E * 8388608 + F - 1 := by rw [IntKind.wrap_u64]; omega
  have q1 : (E * 8388608 + F - 1).tdiv 8388608 = (E * 8388608 + F - 1) / 8388608 := Int.tdiv_eq_ediv_of_nonneg (by omega)
  have q2 : (E * 8388608 + F - 1).tmod 8388608 = (E * 8388608 + F - 1) % 8388608 := Int.tmod_eq_emod_of_nonneg (by omega)
  have q3 : IntKind.u64.wrap ((E * 8388608 + F - 1) / 8388608) = (E * 8388608 + F - 1) / 8388608 := by rw [IntKind.wrap_u64]; omega
  have k5 : IntKind.i64.wrap ((E * 8388608 + F - 1) / 8388608) = (E * 8388608 + F - 1) / 8388608 := IntWalk.i64_in _ (by omega)
  have z0 : (E * 8388608 + F == 0) = false := by rw [beq_eq_false_iff_ne]; omega
  have z1 : ¬ (E * 8388608 + F = 0) := by omega
  have hv : stepV 2147483648 N false (E * 8388608 + F) = jn 8 23 N ((E * 8388608 + F - 1) / 8388608) ((E * 8388608 + F - 1) % 8388608) := by cases N <;> simp [jn, stepV, z1] <;> omega
  rw [hv]
  clear hv z1
  by_cases h3 : c = 3
  · subst h3
    rcases hg with rfl | rfl
    all_goals
      subst hS
      go_enter Tryd.func39, Tryd.ntmps39
      go_wp2_with fail
      refine (D.out _).mono ?_; rintro e w1 ⟨rfl, hb⟩
      have H1 := Lib.hid hb
      clear hb
      go_wp2_with fail
      refine (C.out _).mono ?_; rintro e w2 ⟨rfl, hb⟩
      have H2 := Lib.hid (H1.out.trans (hb.mono H1.out.size))
      clear hb
      go_wp2_with fail
      refine (docForm_32 _).mono ?_; rintro e w3 ⟨rfl, hw⟩
      have c0 := (congrArg (fun w : World => w.cell? ⟨w2.heap.size, 0, none⟩) hw).symm
      have c1 : w3.cell? ⟨w2.heap.size, 1, none⟩ = some (.int .i64 E) := by rw [← hw]; simp
      have c2 : w3.cell? ⟨w2.heap.size, 2, none⟩ = some (.int .u64 F) := by rw [← hw]; simp
      have f0 : w3.frozen? ⟨w2.heap.size, 0, none⟩ = false := by rw [← hw]; simp
      simp at c0
      have H3 := Lib.hid (show Below W.heap.size W w3 by rw [← hw]; exact H2.out.alloc H2.out.size _)
      have HZ := Lib.hid H2.out.size
      clear hw
      go_wp2_with fail
      go_quiet ((go_at_call 73; exact Calls.quiet_of_same (pow2_q _ (by omega) (by omega) _)))
      go_wp2_with fail
      obtain ⟨w4, hw4⟩ : ∃ w4, w4 = w3.drewN nq := ⟨_, rfl⟩
      rw [← hw4]
      have g0 := (show w4.cell? ⟨w2.heap.size, 0, none⟩ = w3.cell? ⟨w2.heap.size, 0, none⟩ by rw [hw4]; rfl).trans c0
      have H4 := Lib.hid (show Below W.heap.size W w4 by rw [hw4]; exact below_drewN H3.out _)
      clear hw4 c0 c1 c2 f0 HZ
      go_region_with (first | (go_at_call 73; refine (pow2_is 23 (by omega) (by omega) 8388608 (by decide) _).mono ?_; rintro e w' ⟨rfl, rfl⟩) | (go_at_call 86; refine (J.out _ _ _ (by omega) (by omega) (by omega) (by omega) _).mono ?_; rintro e w5 ⟨rfl, h5⟩; have H5 := Lib.hid h5; clear h5))
      all_goals go_wp2_with fail
      all_goals go_ret2
      all_goals exact ⟨rfl, (Below.drew H4.out).trans (H5.out.mono (by have := H4.out.size; simpa using this))⟩
  · have e3 : (c == 3) = false := by rw [beq_eq_false_iff_ne]; exact h3
    clear h3
    rcases hg with rfl | rfl
    all_goals
      subst hS
      go_enter Tryd.func39, Tryd.ntmps39
      go_wp2_with fail
      refine (D.out _).mono ?_; rintro e w1 ⟨rfl, hb⟩
      have H1 := Lib.hid hb
      clear hb
      go_wp2_with fail
      refine (C.out _).mono ?_; rintro e w2 ⟨rfl, hb⟩
      have H2 := Lib.hid (H1.out.trans (hb.mono H1.out.size))
      clear hb
      go_wp2_with fail
      refine (docForm_32 _).mono ?_; rintro e w3 ⟨rfl, hw⟩
      have c0 := (congrArg (fun w : World => w.cell? ⟨w2.heap.size, 0, none⟩) hw).symm
      have c1 : w3.cell? ⟨w2.heap.size, 1, none⟩ = some (.int .i64 E) := by rw [← hw]; simp
      have c2 : w3.cell? ⟨w2.heap.size, 2, none⟩ = some (.int .u64 F) := by rw [← hw]; simp
      have f0 : w3.frozen? ⟨w2.heap.size, 0, none⟩ = false := by rw [← hw]; simp
      simp at c0
      have H3 := Lib.hid (show Below W.heap.size W w3 by rw [← hw]; exact H2.out.alloc H2.out.size _)
      have HZ := Lib.hid H2.out.size
      clear hw
      go_wp2_with fail
      go_quiet ((go_at_call 73; exact Calls.quiet_of_same (pow2_q _ (by omega) (by omega) _)))
      go_wp2_with fail
      obtain ⟨w4, hw4⟩ : ∃ w4, w4 = w3.drewN nq := ⟨_, rfl⟩
      rw [← hw4]
      have g0 := (show w4.cell? ⟨w2.heap.size, 0, none⟩ = w3.cell? ⟨w2.heap.size, 0, none⟩ by rw [hw4]; rfl).trans c0
      have H4 := Lib.hid (show Below W.heap.size W w4 by rw [hw4]; exact below_drewN H3.out _)
      clear hw4 c0 c1 c2 f0 HZ
      go_region_with (first | (go_at_call 73; refine (pow2_is 23 (by omega) (by omega) 8388608 (by decide) _).mono ?_; rintro e w' ⟨rfl, rfl⟩) | (go_at_call 86; refine (J.out _ _ _ (by omega) (by omega) (by omega) (by omega) _).mono ?_; rintro e w5 ⟨rfl, h5⟩; have H5 := Lib.hid h5; clear h5))
      all_goals go_wp2_with fail
      all_goals go_ret2
      all_goals exact ⟨rfl, (Below.drew H4.out).trans (H5.out.mono (by have := H4.out.size; simpa using this))⟩
end Go.Proofs.YtifnochpmlllgaaDoor.Real
