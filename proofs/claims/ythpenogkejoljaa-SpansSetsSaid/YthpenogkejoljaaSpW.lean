/-
  PROVED HERE: slices.Grow of no row of spans. Conditions: as each theorem states.
-/
import Derived.Test.YthpenogkejoljaaSpL
import Derived.Lib.AppendZeros
namespace Go.Proofs.Ythpenogkejoljaa.Sp
open Go.RowKit
theorem zero_size (z : Array Value) (n : Nat) : (Builtin.zeroCells z n).size = n * z.size := by simp [Builtin.zeroCells]
theorem grow_own (w : World) (n : Nat) (hn : n ≤ 1000) (B : Nat) (hB : B ≤ w.heap.size) (z : Array Value) (hz : z.size = 2) :
    OwnS (w.drew.alloc (.cells (Builtin.zeroCells z n ++ Builtin.zeroCells z (grownCap w n 0 26 - n)) 26)) B (.slice (some ⟨w.heap.size, 0, none⟩) 0 (grownCap w n 0 26)) [] := by
  have h1 := grownCap_ge w n 0 26
  have h2 := grownCap_le_maxLen w n 0 26 (by unfold maxLen; omega)
  refine World.ownsRow_made w.drew _ _ hB h2 ?_
  rw [Array.size_append, zero_size, zero_size, hz]
  omega
set_option maxRecDepth 100000 in
set_option maxHeartbeats 2000000 in
theorem grow_any (w : World) (n : Nat) (h0 : 0 < n) (hn : n ≤ 1000) : Calls Try.prog 34 #[.slice none 0 0, .int .i64 (n : Int)] w fun e w' => ∃ v, e = .returned v ∧ OwnS w' w.heap.size v [] ∧ Below w.heap.size w w' := by
  obtain ⟨i, hi, hz0, hz1, hz2⟩ := info_parts infoSpn
  have hr := Go.Lib.run_append_nil_zeros (P := Try.prog) w 22 3 22 26 i _ .i64 .i64 Try.underlying22 Try.underlying3 hi hz0 n h0 (by omega) (by omega) (by rw [hz2]; omega)
  have hO := Lib.hid (grow_own w n hn w.heap.size (Nat.le_refl _) _ (show (Value.agg #[.int .i64 0, .int .i64 0]).cells.size = 2 from rfl))
  have hcap := grownCap_ge w n 0 26
  have d1 : decide ((0 : Int) < (n : Int)) = true := decide_eq_true (by omega)
  have d2 : decide ((n : Int) < 0) = false := decide_eq_false (by omega)
  have d3 : decide (0 < n) = true := decide_eq_true h0
  have w0 : IntKind.i64.wrap (n : Int) = n := IntWalk.i64_in _ (by omega)
  have hcz : (0 : Int) ≤ ((grownCap w n 0 26 : Nat) : Int) := by omega
  go_enter Try.func34, Try.ntmps34
  go_wp2_with (at_builtin; refine Go.Lib.wpList_append_run _ rfl _ _ _ _ rfl _ _ rfl rfl _ _ hr ?_)
  go_ret
  exact ⟨_, rfl, hO.out, ((Below.refl _ w).alloc (Nat.le_refl _) _).drew⟩
end Go.Proofs.Ythpenogkejoljaa.Sp
