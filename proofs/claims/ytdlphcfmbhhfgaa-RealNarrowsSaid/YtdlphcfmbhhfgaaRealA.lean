/-
  PROVED HERE: contracts of real.form, Apart and of the document's realForm, pow2, one, RealApart. Conditions: as each theorem states.
-/
import Derived.Test.YtdlphcfmbhhfgaaRows
import Derived.Test.YtdlphcfmbhhfgaaMem
import Derived.StillTailTactics
namespace Go.Proofs.Ytdlphcfmbhhfgaa.Real
open Go.RowKit

/-! ### forms -/
theorem docForm_32 (W : World) : Calls Try.prog 16 #[.int .i64 32] W fun e w' => e = .returned (.tuple #[.int .i64 8, .int .i64 23, .bool true]) ∧ W = w' := by
  go_enter Try.func16, Try.ntmps16
  go_wp2
  go_ret3
  exact ⟨rfl, rfl⟩
theorem docForm_64 (W : World) : Calls Try.prog 16 #[.int .i64 64] W fun e w' => e = .returned (.tuple #[.int .i64 11, .int .i64 52, .bool true]) ∧ W = w' := by
  go_enter Try.func16, Try.ntmps16
  go_wp2
  go_ret3
  exact ⟨rfl, rfl⟩
theorem docForm_no (n : Int) (h32 : n ≠ 32) (h64 : n ≠ 64) (W : World) : Calls Try.prog 16 #[.int .i64 n] W fun e w' => e = .returned (.tuple #[.int .i64 11, .int .i64 52, .bool false]) ∧ W = w' := by
  have h1 : (n == 32) = false := by rw [beq_eq_false_iff_ne]; exact h32
  have h2 : (n == 64) = false := by rw [beq_eq_false_iff_ne]; exact h64
  clear h32 h64
  go_enter Try.func16, Try.ntmps16
  go_wp2
  go_ret3
  exact ⟨rfl, rfl⟩
theorem ix0 (w : World) : (Instr.index 54 (.agg #[.int .i64 32, .int .i64 8, .int .i64 23, .int .i64 64, .int .i64 11, .int .i64 52]) (.int .i64 0)).run Try.prog w = .ok (.agg #[.int .i64 32, .int .i64 8, .int .i64 23]) w := by kernel_rfl
theorem ix1 (w : World) : (Instr.index 54 (.agg #[.int .i64 32, .int .i64 8, .int .i64 23, .int .i64 64, .int .i64 11, .int .i64 52]) (.int .i64 1)).run Try.prog w = .ok (.agg #[.int .i64 64, .int .i64 11, .int .i64 52]) w := by kernel_rfl
set_option maxRecDepth 100000 in
theorem form_32 (W : World) : Calls Try.prog 15 #[.int .i64 32] W fun e w' => e = .returned (.tuple #[.int .i64 8, .int .i64 23, .bool true]) ∧ Below W.heap.size W w' := by
  have i0 := ix0
  go_enter Try.func15, Try.ntmps15
  go_wp2
  refine wp_loop_rounds 1 ?_
  rw [rounds_succ]
  go_wp2
  go_quiet (fail)
  go_wp2
  go_ret3
  exact ⟨rfl, below_drewN ((Below.refl _ _).alloc (Nat.le_refl _) _) _⟩
set_option maxRecDepth 100000 in
theorem form_64 (W : World) : Calls Try.prog 15 #[.int .i64 64] W fun e w' => e = .returned (.tuple #[.int .i64 11, .int .i64 52, .bool true]) ∧ Below W.heap.size W w' := by
  have i0 := ix0
  have i1 := ix1
  go_enter Try.func15, Try.ntmps15
  go_wp2
  refine wp_loop_rounds 2 ?_
  rw [rounds_succ]
  go_wp2
  rw [rounds_succ]
  go_wp2
  go_quiet (fail)
  go_wp2
  go_ret3
  exact ⟨rfl, below_drewN (((Below.refl _ _).alloc (Nat.le_refl _) _).alloc (by simp) _) _⟩
set_option maxRecDepth 100000 in
theorem form_no (n : Int) (h32 : n ≠ 32) (h64 : n ≠ 64) (W : World) : Calls Try.prog 15 #[.int .i64 n] W fun e w' => e = .returned (.tuple #[.int .i64 0, .int .i64 0, .bool false]) ∧ Below W.heap.size W w' := by
  have i0 := ix0
  have i1 := ix1
  have h1 : ((32 : Int) == n) = false := by rw [beq_eq_false_iff_ne]; exact fun e => h32 e.symm
  have h2 : ((64 : Int) == n) = false := by rw [beq_eq_false_iff_ne]; exact fun e => h64 e.symm
  clear h32 h64
  go_enter Try.func15, Try.ntmps15
  go_wp2
  refine wp_loop_rounds 3 ?_
  rw [rounds_succ]
  go_wp2
  rw [rounds_succ]
  go_wp2
  rw [rounds_succ]
  go_wp2
  go_ret3
  exact ⟨rfl, ((Below.refl _ _).alloc (Nat.le_refl _) _).alloc (by simp) _⟩

def p2 (j : Nat) : Nat := 2 ^ j
theorem p2_succ (j : Nat) : ((p2 (j + 1) : Nat) : Int) = (p2 j : Nat) * 2 := by rw [p2, Nat.pow_succ]; rfl
theorem p2_le (j : Nat) (h : j ≤ 62) : p2 j ≤ 4611686018427387904 := Nat.pow_le_pow_right (n := 2) (by omega) h
set_option maxHeartbeats 400000 in
theorem pow2_any (n : Nat) (h : n ≤ 63) (W : World) : Calls Try.prog 10 #[.int .i64 n] W fun e w' => e = .returned (.int .u64 (p2 n : Nat)) ∧ W = w' := by
  go_enter Try.func10, Try.ntmps10
  go_wp2
  go_loop [0, 3] (fun k n' => ∃ j : Nat, j ≤ n ∧ k = .int .i64 (n - j : Nat) ∧ n' = .int .u64 (p2 j : Nat)) (fun k _ => (intOf k).toNat)
  case atStart => exact ⟨0, Nat.zero_le _, rfl, rfl⟩
  case round =>
    obtain ⟨j, hj, rfl, rfl⟩ := hrel
    by_cases hlt : j < n
    · have hb := p2_le j (by omega)
      have HP := Lib.hid (p2_succ j)
      go_wp2
      go_round
      case rel => exact ⟨j + 1, by omega, by go_num, by rw [HP.out]⟩
      case measure => simp [intOf]; omega
    · obtain rfl : j = n := by omega
      go_wp2
      go_ret
      exact ⟨rfl, rfl⟩
theorem pow2_is (n : Int) (h0 : 0 ≤ n) (h : n ≤ 63) (v : Int) (hv : ((2 ^ n.toNat : Nat) : Int) = v) (W : World) : Calls Try.prog 10 #[.int .i64 n] W fun e w' => e = .returned (.int .u64 v) ∧ w' = W := by
  obtain ⟨n, rfl⟩ := Int.eq_ofNat_of_zero_le h0
  exact (pow2_any n (by omega) W).mono fun e w' ⟨he, hw⟩ => ⟨by rw [he]; rw [Int.toNat_natCast] at hv; rw [← hv]; rfl, hw.symm⟩
theorem one_t (W : World) : Calls Try.prog 9 #[.bool true] W fun e w' => e = .returned (.int .i64 1) ∧ w' = W := by
  go_enter Try.func9, Try.ntmps9
  go_wp2
  go_ret
  exact ⟨rfl, rfl⟩
theorem one_f (W : World) : Calls Try.prog 9 #[.bool false] W fun e w' => e = .returned (.int .i64 0) ∧ w' = W := by
  go_enter Try.func9, Try.ntmps9
  go_wp2
  go_ret
  exact ⟨rfl, rfl⟩

/-! ### taken apart -/
theorem and_mask (x : Int) (k : Nat) (h0 : 0 ≤ x) (h1 : x < 18446744073709551616) (hk : k ≤ 63) : bits .and .u64 x (((2 ^ k - 1 : Nat)) : Int) = x % ((2 ^ k : Nat) : Int) := by
  obtain ⟨n, rfl⟩ := Int.eq_ofNat_of_zero_le h0
  have hp : 2 ^ k ≤ 9223372036854775808 := Nat.pow_le_pow_right (n := 2) (by omega) hk
  rw [u64_and_nat n (2 ^ k - 1) (by omega) (by omega), Nat.and_two_pow_sub_one_eq_mod]
  rfl
/-- A real of 32 bits, taken apart; of 64. -/
def neg32 (b : Int) : Bool := b / 2147483648 % 2 == 1
def exp32 (b : Int) : Int := b / 8388608 % 256
def frac32 (b : Int) : Int := b % 8388608
def neg64 (b : Int) : Bool := b / 9223372036854775808 % 2 == 1
def exp64 (b : Int) : Int := b / 4503599627370496 % 2048
def frac64 (b : Int) : Int := b % 4503599627370496

set_option maxRecDepth 100000 in
set_option maxHeartbeats 1000000 in
theorem apart_32 (b : Int) (h0 : 0 ≤ b) (h1 : b ≤ 18446744073709551615) (W : World) :
    Calls Try.prog 6 #[.int .u64 b, .int .i64 32] W fun e w' => e = .returned (.tuple #[.agg #[.bool (neg32 b), .int .i64 (exp32 b), .int .u64 (frac32 b)], .nilIface]) ∧ Below W.heap.size W w' := by
  have a1 : bits .and .u64 (b / 2147483648) 1 = b / 2147483648 % 2 := and_mask _ 1 (by omega) (by omega) (by omega)
  have a2 : bits .and .u64 (b / 8388608) 255 = b / 8388608 % 256 := and_mask _ 8 (by omega) (by omega) (by omega)
  have a3 : bits .and .u64 b 8388607 = b % 8388608 := and_mask _ 23 (by omega) (by omega) (by omega)
  go_enter Try.func6, Try.ntmps6
  go_wp2_with fail
  refine (form_32 _).mono ?_; rintro e w' ⟨rfl, hb⟩
  have c0 : w'.cell? ⟨W.heap.size, 0, none⟩ = some (.bool false) := (hb.cell (p := ⟨W.heap.size, 0, none⟩) (by simp)).trans (by simp)
  have c1 : w'.cell? ⟨W.heap.size, 1, none⟩ = some (.int .i64 0) := (hb.cell (p := ⟨W.heap.size, 1, none⟩) (by simp)).trans (by simp)
  have c2 : w'.cell? ⟨W.heap.size, 2, none⟩ = some (.int .u64 0) := (hb.cell (p := ⟨W.heap.size, 2, none⟩) (by simp)).trans (by simp)
  have f0 : w'.frozen? ⟨W.heap.size, 0, none⟩ = false := (hb.frozen (p := ⟨W.heap.size, 0, none⟩) (by simp)).trans (by simp)
  have f1 : w'.frozen? ⟨W.heap.size, 1, none⟩ = false := (hb.frozen (p := ⟨W.heap.size, 1, none⟩) (by simp)).trans (by simp)
  have f2 : w'.frozen? ⟨W.heap.size, 2, none⟩ = false := (hb.frozen (p := ⟨W.heap.size, 2, none⟩) (by simp)).trans (by simp)
  have hbH := Lib.hid hb
  clear hb
  have k1 : IntKind.i64.wrap 31 = 31 := by decide
  have k2 : IntKind.u64.wrap 256 = 256 := by decide
  have k3 : IntKind.u64.wrap 255 = 255 := by decide
  have k4 : IntKind.u64.wrap 8388608 = 8388608 := by decide
  have k5 : IntKind.u64.wrap 8388607 = 8388607 := by decide
  go_wp2_with fail
  go_still_tail 21, (by kernel_rfl)
  go_wp2_with fail
  have e1 : IntKind.i64.wrap (b / 8388608 % 256) = b / 8388608 % 256 := IntWalk.i64_in _ (by omega)
  refine bodyPost_ret (v := .tuple #[.agg #[.bool (neg32 b), .int .i64 (exp32 b), .int .u64 (frac32 b)], .nilIface]) (by simp [results, Try.results6, go_sem, c0, c1, c2, neg32, exp32, frac32]) rfl ⟨rfl, ?_⟩
  refine Below.drew (((Below.setCell ?_ (p := ⟨W.heap.size, 0, none⟩) (Nat.le_refl _) _).setCell (p := ⟨W.heap.size, 1, none⟩) (Nat.le_refl _) _).setCell (p := ⟨W.heap.size, 2, none⟩) (Nat.le_refl _) _)
  exact ((Below.refl _ _).alloc (Nat.le_refl _) _).trans (hbH.out.mono (by simp))
end Go.Proofs.Ytdlphcfmbhhfgaa.Real
