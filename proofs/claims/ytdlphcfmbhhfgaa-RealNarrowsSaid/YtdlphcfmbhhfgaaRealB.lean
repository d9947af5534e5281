/-
  PROVED HERE: contracts of real.Apart and of the document's RealApart at every width, of real.Class and RealClass, real.Join and RealJoin. Conditions: as each theorem states.
-/
import Derived.Test.YtdlphcfmbhhfgaaRows
import Derived.Test.YtdlphcfmbhhfgaaRealA
namespace Go.Proofs.Ytdlphcfmbhhfgaa.Real
open Go.RowKit

set_option maxRecDepth 100000 in
set_option maxHeartbeats 1000000 in
theorem apart_64 (b : Int) (h0 : 0 ≤ b) (h1 : b ≤ 18446744073709551615) (W : World) :
    Calls Try.prog 6 #[.int .u64 b, .int .i64 64] W fun e w' => e = .returned (.tuple #[.agg #[.bool (neg64 b), .int .i64 (exp64 b), .int .u64 (frac64 b)], .nilIface]) ∧ Below W.heap.size W w' := by
  have a1 : bits .and .u64 (b / 9223372036854775808) 1 = b / 9223372036854775808 % 2 := and_mask _ 1 (by omega) (by omega) (by omega)
  have a2 : bits .and .u64 (b / 4503599627370496) 2047 = b / 4503599627370496 % 2048 := and_mask _ 11 (by omega) (by omega) (by omega)
  have a3 : bits .and .u64 b 4503599627370495 = b % 4503599627370496 := and_mask _ 52 (by omega) (by omega) (by omega)
  go_enter Try.func6, Try.ntmps6
  go_wp2_with fail
  refine (form_64 _).mono ?_; rintro e w' ⟨rfl, hb⟩
  have c0 : w'.cell? ⟨W.heap.size, 0, none⟩ = some (.bool false) := (hb.cell (p := ⟨W.heap.size, 0, none⟩) (by simp)).trans (by simp)
  have c1 : w'.cell? ⟨W.heap.size, 1, none⟩ = some (.int .i64 0) := (hb.cell (p := ⟨W.heap.size, 1, none⟩) (by simp)).trans (by simp)
  have c2 : w'.cell? ⟨W.heap.size, 2, none⟩ = some (.int .u64 0) := (hb.cell (p := ⟨W.heap.size, 2, none⟩) (by simp)).trans (by simp)
  have f0 : w'.frozen? ⟨W.heap.size, 0, none⟩ = false := (hb.frozen (p := ⟨W.heap.size, 0, none⟩) (by simp)).trans (by simp)
  have f1 : w'.frozen? ⟨W.heap.size, 1, none⟩ = false := (hb.frozen (p := ⟨W.heap.size, 1, none⟩) (by simp)).trans (by simp)
  have f2 : w'.frozen? ⟨W.heap.size, 2, none⟩ = false := (hb.frozen (p := ⟨W.heap.size, 2, none⟩) (by simp)).trans (by simp)
  have hbH := Lib.hid hb
  clear hb
  have k1 : IntKind.i64.wrap 63 = 63 := by decide
  have k2 : IntKind.u64.wrap 2048 = 2048 := by decide
  have k3 : IntKind.u64.wrap 2047 = 2047 := by decide
  have k4 : IntKind.u64.wrap 4503599627370496 = 4503599627370496 := by decide
  have k5 : IntKind.u64.wrap 4503599627370495 = 4503599627370495 := by decide
  go_wp2_with fail
  go_still_tail 21, (by kernel_rfl)
  go_wp2_with fail
  have e1 : IntKind.i64.wrap (b / 4503599627370496 % 2048) = b / 4503599627370496 % 2048 := IntWalk.i64_in _ (by omega)
  refine bodyPost_ret (v := .tuple #[.agg #[.bool (neg64 b), .int .i64 (exp64 b), .int .u64 (frac64 b)], .nilIface]) (by simp [results, Try.results6, go_sem, c0, c1, c2, neg64, exp64, frac64]) rfl ⟨rfl, ?_⟩
  refine Below.drew (((Below.setCell ?_ (p := ⟨W.heap.size, 0, none⟩) (Nat.le_refl _) _).setCell (p := ⟨W.heap.size, 1, none⟩) (Nat.le_refl _) _).setCell (p := ⟨W.heap.size, 2, none⟩) (Nat.le_refl _) _)
  exact ((Below.refl _ _).alloc (Nat.le_refl _) _).trans (hbH.out.mono (by simp))
set_option maxRecDepth 100000 in
set_option maxHeartbeats 1000000 in
theorem apart_no (b n : Int) (h32 : n ≠ 32) (h64 : n ≠ 64) (W : World) :
    Calls Try.prog 6 #[.int .u64 b, .int .i64 n] W fun e w' => e = .returned (.tuple #[.agg #[.bool false, .int .i64 0, .int .u64 0], .iface 33 (.int .i64 1)]) ∧ Below W.heap.size W w' := by
  have H := Lib.hid (And.intro h32 h64)
  clear h32 h64
  go_enter Try.func6, Try.ntmps6
  go_wp2_with fail
  refine (form_no n H.out.1 H.out.2 _).mono ?_; rintro e w' ⟨rfl, hb⟩
  have c0 : w'.cell? ⟨W.heap.size, 0, none⟩ = some (.bool false) := (hb.cell (p := ⟨W.heap.size, 0, none⟩) (by simp)).trans (by simp)
  have c1 : w'.cell? ⟨W.heap.size, 1, none⟩ = some (.int .i64 0) := (hb.cell (p := ⟨W.heap.size, 1, none⟩) (by simp)).trans (by simp)
  have c2 : w'.cell? ⟨W.heap.size, 2, none⟩ = some (.int .u64 0) := (hb.cell (p := ⟨W.heap.size, 2, none⟩) (by simp)).trans (by simp)
  have f0 : w'.frozen? ⟨W.heap.size, 0, none⟩ = false := (hb.frozen (p := ⟨W.heap.size, 0, none⟩) (by simp)).trans (by simp)
  have f1 : w'.frozen? ⟨W.heap.size, 1, none⟩ = false := (hb.frozen (p := ⟨W.heap.size, 1, none⟩) (by simp)).trans (by simp)
  have f2 : w'.frozen? ⟨W.heap.size, 2, none⟩ = false := (hb.frozen (p := ⟨W.heap.size, 2, none⟩) (by simp)).trans (by simp)
  have hbH := Lib.hid hb
  clear hb
  go_wp2_with fail
  refine bodyPost_ret (v := .tuple #[.agg #[.bool false, .int .i64 0, .int .u64 0], .iface 33 (.int .i64 1)]) (by simp [results, Try.results6, go_sem, c0, c1, c2]) rfl ⟨rfl, ?_⟩
  refine ((Below.setCell ?_ (p := ⟨W.heap.size, 0, none⟩) (Nat.le_refl _) _).setCell (p := ⟨W.heap.size, 1, none⟩) (Nat.le_refl _) _).setCell (p := ⟨W.heap.size, 2, none⟩) (Nat.le_refl _) _
  exact ((Below.refl _ _).alloc (Nat.le_refl _) _).trans (hbH.out.mono (by simp))
set_option maxRecDepth 100000 in
set_option maxHeartbeats 1000000 in
theorem docApart_32 (b : Int) (h0 : 0 ≤ b) (h1 : b ≤ 18446744073709551615) (W : World) :
    Calls Try.prog 7 #[.int .u64 b, .int .i64 32] W fun e w' => e = .returned (.tuple #[.agg #[.bool (neg32 b), .int .i64 (exp32 b), .int .u64 (frac32 b)], .int .i64 0]) ∧ Below W.heap.size W w' := by
  have k1 : IntKind.i64.wrap 31 = 31 := by decide
  go_enter Try.func7, Try.ntmps7
  go_wp2_with fail
  refine (docForm_32 _).mono ?_; rintro e w' ⟨rfl, hw⟩
  have c0 : w'.cell? ⟨W.heap.size, 0, none⟩ = some (.bool false) := by rw [← hw]; simp
  have c1 : w'.cell? ⟨W.heap.size, 1, none⟩ = some (.int .i64 0) := by rw [← hw]; simp
  have c2 : w'.cell? ⟨W.heap.size, 2, none⟩ = some (.int .u64 0) := by rw [← hw]; simp
  have f0 : w'.frozen? ⟨W.heap.size, 0, none⟩ = false := by rw [← hw]; simp
  have f1 : w'.frozen? ⟨W.heap.size, 1, none⟩ = false := by rw [← hw]; simp
  have f2 : w'.frozen? ⟨W.heap.size, 2, none⟩ = false := by rw [← hw]; simp
  have hbH := Lib.hid (show Below W.heap.size W w' by rw [← hw]; exact (Below.refl _ _).alloc (Nat.le_refl _) _)
  clear hw
  go_wp2_with fail
  refine wp_region_still_tail 21 (by kernel_rfl) (by kernel_rfl) ?_
  simp only [List.take_succ_cons, List.take_zero, List.drop_succ_cons, List.drop_zero]
  repeat still_step
  still_call (pow2_is 23 (by omega) (by omega) 8388608 (by decide) _)
  repeat still_step
  still_call (pow2_is 23 (by omega) (by omega) 8388608 (by decide) _)
  repeat still_step
  still_call (pow2_is 8 (by omega) (by omega) 256 (by decide) _)
  repeat still_step
  still_call (pow2_is 31 (by omega) (by omega) 2147483648 (by decide) _)
  repeat still_step
  refine wpStill_nil ?_
  go_wp2_with fail
  have e1 : IntKind.i64.wrap (b / 8388608 % 256) = b / 8388608 % 256 := IntWalk.i64_in _ (by omega)
  refine bodyPost_ret (v := .tuple #[.agg #[.bool (neg32 b), .int .i64 (exp32 b), .int .u64 (frac32 b)], .int .i64 0]) (by simp [results, Try.results7, go_sem, c0, c1, c2, neg32, exp32, frac32]) rfl ⟨rfl, ?_⟩
  exact Below.drew (((hbH.out.setCell (p := ⟨W.heap.size, 0, none⟩) (Nat.le_refl _) _).setCell (p := ⟨W.heap.size, 1, none⟩) (Nat.le_refl _) _).setCell (p := ⟨W.heap.size, 2, none⟩) (Nat.le_refl _) _)
set_option maxRecDepth 100000 in
set_option maxHeartbeats 1000000 in
theorem docApart_64 (b : Int) (h0 : 0 ≤ b) (h1 : b ≤ 18446744073709551615) (W : World) :
    Calls Try.prog 7 #[.int .u64 b, .int .i64 64] W fun e w' => e = .returned (.tuple #[.agg #[.bool (neg64 b), .int .i64 (exp64 b), .int .u64 (frac64 b)], .int .i64 0]) ∧ Below W.heap.size W w' := by
  have k1 : IntKind.i64.wrap 63 = 63 := by decide
  go_enter Try.func7, Try.ntmps7
  go_wp2_with fail
  refine (docForm_64 _).mono ?_; rintro e w' ⟨rfl, hw⟩
  have c0 : w'.cell? ⟨W.heap.size, 0, none⟩ = some (.bool false) := by rw [← hw]; simp
  have c1 : w'.cell? ⟨W.heap.size, 1, none⟩ = some (.int .i64 0) := by rw [← hw]; simp
  have c2 : w'.cell? ⟨W.heap.size, 2, none⟩ = some (.int .u64 0) := by rw [← hw]; simp
  have f0 : w'.frozen? ⟨W.heap.size, 0, none⟩ = false := by rw [← hw]; simp
  have f1 : w'.frozen? ⟨W.heap.size, 1, none⟩ = false := by rw [← hw]; simp
  have f2 : w'.frozen? ⟨W.heap.size, 2, none⟩ = false := by rw [← hw]; simp
  have hbH := Lib.hid (show Below W.heap.size W w' by rw [← hw]; exact (Below.refl _ _).alloc (Nat.le_refl _) _)
  clear hw
  go_wp2_with fail
  refine wp_region_still_tail 21 (by kernel_rfl) (by kernel_rfl) ?_
  simp only [List.take_succ_cons, List.take_zero, List.drop_succ_cons, List.drop_zero]
  repeat still_step
  still_call (pow2_is 52 (by omega) (by omega) 4503599627370496 (by decide) _)
  repeat still_step
  still_call (pow2_is 52 (by omega) (by omega) 4503599627370496 (by decide) _)
  repeat still_step
  still_call (pow2_is 11 (by omega) (by omega) 2048 (by decide) _)
  repeat still_step
  still_call (pow2_is 63 (by omega) (by omega) 9223372036854775808 (by decide) _)
  repeat still_step
  refine wpStill_nil ?_
  go_wp2_with fail
  have e1 : IntKind.i64.wrap (b / 4503599627370496 % 2048) = b / 4503599627370496 % 2048 := IntWalk.i64_in _ (by omega)
  refine bodyPost_ret (v := .tuple #[.agg #[.bool (neg64 b), .int .i64 (exp64 b), .int .u64 (frac64 b)], .int .i64 0]) (by simp [results, Try.results7, go_sem, c0, c1, c2, neg64, exp64, frac64]) rfl ⟨rfl, ?_⟩
  exact Below.drew (((hbH.out.setCell (p := ⟨W.heap.size, 0, none⟩) (Nat.le_refl _) _).setCell (p := ⟨W.heap.size, 1, none⟩) (Nat.le_refl _) _).setCell (p := ⟨W.heap.size, 2, none⟩) (Nat.le_refl _) _)
theorem docApart_no (b n : Int) (h32 : n ≠ 32) (h64 : n ≠ 64) (W : World) :
    Calls Try.prog 7 #[.int .u64 b, .int .i64 n] W fun e w' => e = .returned (.tuple #[.agg #[.bool false, .int .i64 0, .int .u64 0], .int .i64 1]) ∧ Below W.heap.size W w' := by
  have H := Lib.hid (And.intro h32 h64)
  clear h32 h64
  go_enter Try.func7, Try.ntmps7
  go_wp2_with fail
  refine (docForm_no n H.out.1 H.out.2 _).mono ?_; rintro e w' ⟨rfl, rfl⟩
  go_wp2_with fail
  refine bodyPost_ret (v := .tuple #[.agg #[.bool false, .int .i64 0, .int .u64 0], .int .i64 1]) (by simp [results, Try.results7, go_sem]) rfl ⟨rfl, ?_⟩
  exact (Below.refl _ _).alloc (Nat.le_refl _) _
end Go.Proofs.Ytdlphcfmbhhfgaa.Real
