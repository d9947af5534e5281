/-
  PROVED HERE: contracts of word.Signed, Unsigned, Fits and of the document's own, over every input, and that the law WordSigns returns true. Conditions: as each theorem states.
-/
import Derived.Test.YtkopjmofdnlplaaGreatDoorRows
import Derived.WalkKit
import Derived.WalkLawsBesides
import Derived.WalkSpells
import Derived.BigQuiet
import Derived.Deep.QuietTactic
import Derived.OpenShut
import Derived.Outline
import Derived.Lib.Hide
namespace Go.Proofs.YtkopjmofdnlplaaGreatDoor.Ws
open Go.RowKit
theorem ret_int {k : IntKind} {a b : Int} (h : a = b) : Ending.returned (.int k a) = .returned (.int k b) := by rw [h]
theorem ret_bool {a b : Bool} (h : a = b) : Ending.returned (.bool a) = .returned (.bool b) := by rw [h]

def uns (n w : Int) : Int := if w < 1 ∨ 8 < w then 0 else if w = 8 then n else n % (256 ^ w.toNat : Nat)
def sgn (n w : Int) : Int := if w < 1 ∨ 8 < w then 0 else if w = 8 then wrap64 n else if (256 ^ w.toNat / 2 : Nat) ≤ n % (256 ^ w.toNat : Nat) then n % (256 ^ w.toNat : Nat) - (256 ^ w.toNat : Nat) else n % (256 ^ w.toNat : Nat)

theorem sgn1 (n : Int) : sgn n 1 = if 128 ≤ n % 256 then n % 256 - 256 else n % 256 := rfl
theorem uns1 (n : Int) : uns n 1 = n % 256 := rfl
theorem sgn2 (n : Int) : sgn n 2 = if 32768 ≤ n % 65536 then n % 65536 - 65536 else n % 65536 := rfl
theorem uns2 (n : Int) : uns n 2 = n % 65536 := rfl
theorem sgn3 (n : Int) : sgn n 3 = if 8388608 ≤ n % 16777216 then n % 16777216 - 16777216 else n % 16777216 := rfl
theorem uns3 (n : Int) : uns n 3 = n % 16777216 := rfl
theorem sgn4 (n : Int) : sgn n 4 = if 2147483648 ≤ n % 4294967296 then n % 4294967296 - 4294967296 else n % 4294967296 := rfl
theorem uns4 (n : Int) : uns n 4 = n % 4294967296 := rfl
theorem sgn5 (n : Int) : sgn n 5 = if 549755813888 ≤ n % 1099511627776 then n % 1099511627776 - 1099511627776 else n % 1099511627776 := rfl
theorem uns5 (n : Int) : uns n 5 = n % 1099511627776 := rfl
theorem sgn6 (n : Int) : sgn n 6 = if 140737488355328 ≤ n % 281474976710656 then n % 281474976710656 - 281474976710656 else n % 281474976710656 := rfl
theorem uns6 (n : Int) : uns n 6 = n % 281474976710656 := rfl
theorem sgn7 (n : Int) : sgn n 7 = if 36028797018963968 ≤ n % 72057594037927936 then n % 72057594037927936 - 72057594037927936 else n % 72057594037927936 := rfl
theorem uns7 (n : Int) : uns n 7 = n % 72057594037927936 := rfl
theorem sgn8 (n : Int) : sgn n 8 = wrap64 n := rfl
theorem uns8 (n : Int) : uns n 8 = n := rfl
theorem width_cases {w : Int} (h1 : ¬ w < 1) (h2 : ¬ 8 < w) : w = 1 ∨ w = 2 ∨ w = 3 ∨ w = 4 ∨ w = 5 ∨ w = 6 ∨ w = 7 ∨ w = 8 := by omega

set_option maxHeartbeats 400000 in
theorem signed_any (n w : Int) (h0 : 0 ≤ n) (h1 : n ≤ 18446744073709551615) (W : World) :
    Calls Tryz.prog 81 #[.int .u64 n, .int .i64 w] W fun e w' => e = .returned (.int .i64 (sgn n w)) ∧ W = w' := by
  by_cases hw1 : w < 1
  · go_enter Tryz.func81, Tryz.ntmps81
    go_wp2
    go_ret
    exact ⟨ret_int (by simp [sgn, hw1]), rfl⟩
  by_cases hw2 : 8 < w
  · go_enter Tryz.func81, Tryz.ntmps81
    go_wp2
    go_ret
    exact ⟨ret_int (by simp [sgn, hw2]), rfl⟩
  rcases width_cases hw1 hw2 with rfl | rfl | rfl | rfl | rfl | rfl | rfl | rfl
  all_goals
    clear hw1 hw2
    go_enter Tryz.func81, Tryz.ntmps81
    go_wp2
    go_ret
    refine ⟨ret_int ?_, rfl⟩
    simp only [sgn1, sgn2, sgn3, sgn4, sgn5, sgn6, sgn7, sgn8, wrap64, IntKind.wrap_u64]
  all_goals (split <;> omega)

set_option maxHeartbeats 400000 in
theorem unsigned_any (n w : Int) (h0 : 0 ≤ n) (h1 : n ≤ 18446744073709551615) (W : World) :
    Calls Tryz.prog 103 #[.int .u64 n, .int .i64 w] W fun e w' => e = .returned (.int .u64 (uns n w)) ∧ W = w' := by
  by_cases hw1 : w < 1
  · go_enter Tryz.func103, Tryz.ntmps103
    go_wp2
    go_ret
    exact ⟨ret_int (by simp [uns, hw1]), rfl⟩
  by_cases hw2 : 8 < w
  · go_enter Tryz.func103, Tryz.ntmps103
    go_wp2
    go_ret
    exact ⟨ret_int (by simp [uns, hw2]), rfl⟩
  rcases width_cases hw1 hw2 with rfl | rfl | rfl | rfl | rfl | rfl | rfl | rfl
  all_goals
    clear hw1 hw2
    go_enter Tryz.func103, Tryz.ntmps103
    go_wp2
    go_ret
    refine ⟨ret_int ?_, rfl⟩
    simp only [uns1, uns2, uns3, uns4, uns5, uns6, uns7, uns8, IntKind.wrap_u64]
  all_goals omega

theorem within_yes (n lo hi : Int) (h1 : lo ≤ n) (h2 : n ≤ hi) (W : World) :
    Calls Tryz.prog 101 #[.int .i64 n, .int .i64 lo, .int .i64 hi] W fun e w' => e = .returned (.bool true) ∧ W = w' := by
  go_enter Tryz.func101, Tryz.ntmps101
  go_wp2
  go_ret
  exact ⟨by simp, rfl⟩
theorem within_no (n lo hi : Int) (h : n < lo ∨ hi < n) (W : World) :
    Calls Tryz.prog 101 #[.int .i64 n, .int .i64 lo, .int .i64 hi] W fun e w' => e = .returned (.bool false) ∧ W = w' := by
  rcases h with h | h
  · have hd : decide (lo ≤ n) = false := by simp; omega
    go_enter Tryz.func101, Tryz.ntmps101
    go_wp2
    go_ret
    exact ⟨by simp, rfl⟩
  · by_cases h1 : lo ≤ n
    · have hd : decide (n ≤ hi) = false := by simp; omega
      go_enter Tryz.func101, Tryz.ntmps101
      go_wp2
      go_ret
      exact ⟨by simp, rfl⟩
    · have hd : decide (lo ≤ n) = false := by simp; omega
      go_enter Tryz.func101, Tryz.ntmps101
      go_wp2
      go_ret
      exact ⟨by simp, rfl⟩

/-- 256 to a power, kept behind a name. -/
def p256 (j : Nat) : Nat := 256 ^ j
theorem p256_succ (j : Nat) : ((p256 (j + 1) : Nat) : Int) = (p256 j : Nat) * 256 := by simp [p256, Int.pow_succ]
theorem p256_pos (j : Nat) : 1 ≤ p256 j := Nat.pos_of_ne_zero (by simp [p256])
theorem p256_le (j : Nat) (h : j ≤ 6) : p256 j ≤ 281474976710656 := Nat.pow_le_pow_right (by omega) h

set_option maxHeartbeats 400000 in
theorem power_any (K : Nat) (hK : K ≤ 7) (W : World) :
    Calls Tryz.prog 119 #[.int .i64 K] W fun e w' => e = .returned (.tuple #[.int .u64 (p256 K : Nat), .bool true]) ∧ W = w' := by
  go_enter Tryz.func119, Tryz.ntmps119
  go_wp2
  go_loop [0, 4] (fun k n => ∃ j : Nat, j ≤ K ∧ k = .int .i64 (K - j : Nat) ∧ n = .int .u64 (p256 j : Nat)) (fun k _ => (intOf k).toNat)
  case atStart => exact ⟨0, Nat.zero_le _, rfl, rfl⟩
  case round =>
    obtain ⟨j, hj, rfl, rfl⟩ := hrel
    have hp := p256_pos j
    by_cases hlt : j < K
    · have hb := p256_le j (by omega)
      have HP := Lib.hid (p256_succ j)
      go_wp2
      go_round
      case rel => exact ⟨j + 1, by omega, by go_num, by rw [HP.out]⟩
      case measure => simp [intOf]; omega
    · obtain rfl : j = K := by omega
      go_wp2
      go_ret2
      exact ⟨rfl, rfl⟩

set_option maxHeartbeats 400000 in
theorem power_8 (W : World) :
    Calls Tryz.prog 119 #[.int .i64 8] W fun e w' => e = .returned (.tuple #[.int .u64 0, .bool false]) ∧ W = w' := by
  go_enter Tryz.func119, Tryz.ntmps119
  go_wp2
  go_loop [0, 4] (fun k n => ∃ j : Nat, j ≤ 7 ∧ k = .int .i64 (8 - j : Nat) ∧ n = .int .u64 (p256 j : Nat)) (fun k _ => (intOf k).toNat)
  case atStart => exact ⟨0, Nat.zero_le _, rfl, rfl⟩
  case round =>
    obtain ⟨j, hj, rfl, rfl⟩ := hrel
    have hp := p256_pos j
    by_cases hlt : j < 7
    · have hb := p256_le j (by omega)
      have HP := Lib.hid (p256_succ j)
      go_wp2
      go_round
      case rel => exact ⟨j + 1, by omega, by go_num, by rw [HP.out]⟩
      case measure => simp [intOf]; omega
    · obtain rfl : j = 7 := by omega
      have hb : 36028797018963968 < p256 7 := by unfold p256; omega
      go_wp2
      go_ret2
      exact ⟨rfl, rfl⟩

set_option maxHeartbeats 400000 in
theorem unsigned_doc (n w : Int) (h0 : 0 ≤ n) (h1 : n ≤ 18446744073709551615) (W : World) :
    Calls Tryz.prog 118 #[.int .u64 n, .int .i64 w] W fun e w' => e = .returned (.int .u64 (uns n w)) ∧ W = w' := by
  by_cases hw1 : w < 1
  · go_enter Tryz.func118, Tryz.ntmps118
    go_wp2_with (go_at_call 101; refine (within_no _ _ _ (by omega) _).mono ?_; rintro e w' ⟨rfl, rfl⟩)
    go_ret
    exact ⟨ret_int (by simp [uns, hw1]), rfl⟩
  by_cases hw2 : 8 < w
  · go_enter Tryz.func118, Tryz.ntmps118
    go_wp2_with (go_at_call 101; refine (within_no _ _ _ (by omega) _).mono ?_; rintro e w' ⟨rfl, rfl⟩)
    go_ret
    exact ⟨ret_int (by simp [uns, hw2]), rfl⟩
  obtain ⟨v, rfl⟩ := Int.eq_ofNat_of_zero_le (show 0 ≤ w by omega)
  by_cases hv : v = 8
  · subst hv
    clear hw1 hw2
    go_enter Tryz.func118, Tryz.ntmps118
    go_wp2_with (first | (go_at_call 101; refine (within_yes _ _ _ (by omega) (by omega) _).mono ?_; rintro e w' ⟨rfl, rfl⟩) | (go_at_call 119; refine (power_8 _).mono ?_; rintro e w' ⟨rfl, rfl⟩))
    go_ret
    exact ⟨rfl, rfl⟩
  · have hp := p256_pos v
    go_enter Tryz.func118, Tryz.ntmps118
    go_wp2_with (first | (go_at_call 101; refine (within_yes _ _ _ (by omega) (by omega) _).mono ?_; rintro e w' ⟨rfl, rfl⟩) | (go_at_call 119; refine (power_any v (by omega) _).mono ?_; rintro e w' ⟨rfl, rfl⟩))
    go_ret
    exact ⟨ret_int (by unfold uns; rw [if_neg (by omega), if_neg (by omega)]; rfl), rfl⟩

theorem pw1 (W : World) : Calls Tryz.prog 119 #[.int .i64 1] W fun e w' => e = .returned (.tuple #[.int .u64 256, .bool true]) ∧ W = w' :=
  (power_any 1 (by omega) W).mono fun _ _ ⟨he, hw⟩ => ⟨by rw [he]; rfl, hw⟩
theorem ud1 (n : Int) (h0 : 0 ≤ n) (h1 : n ≤ 18446744073709551615) (W : World) : Calls Tryz.prog 118 #[.int .u64 n, .int .i64 1] W fun e w' => e = .returned (.int .u64 (n % 256)) ∧ W = w' :=
  (unsigned_doc n 1 h0 h1 W).mono fun _ _ ⟨he, hw⟩ => ⟨by rw [he, uns1], hw⟩
set_option maxHeartbeats 400000 in
theorem sd1 (n : Int) (h0 : 0 ≤ n) (h1 : n ≤ 18446744073709551615) (W : World) :
    Calls Tryz.prog 74 #[.int .u64 n, .int .i64 1] W fun e w' => e = .returned (.int .i64 (sgn n 1)) ∧ W = w' := by
  rw [sgn1]
  by_cases hp : 128 ≤ n % 256
  all_goals
    go_enter Tryz.func74, Tryz.ntmps74
    go_wp2_with fail
    refine (within_yes _ _ _ (by omega) (by omega) _).mono ?_; rintro e w' ⟨rfl, rfl⟩
    go_wp2_with fail
    refine (ud1 n h0 h1 _).mono ?_; rintro e w' ⟨rfl, rfl⟩
    go_wp2_with fail
    refine (pw1 _).mono ?_; rintro e w' ⟨rfl, rfl⟩
    go_wp2_with fail
    go_ret
    exact ⟨ret_int (by simp), rfl⟩
theorem pw2 (W : World) : Calls Tryz.prog 119 #[.int .i64 2] W fun e w' => e = .returned (.tuple #[.int .u64 65536, .bool true]) ∧ W = w' :=
  (power_any 2 (by omega) W).mono fun _ _ ⟨he, hw⟩ => ⟨by rw [he]; rfl, hw⟩
theorem ud2 (n : Int) (h0 : 0 ≤ n) (h1 : n ≤ 18446744073709551615) (W : World) : Calls Tryz.prog 118 #[.int .u64 n, .int .i64 2] W fun e w' => e = .returned (.int .u64 (n % 65536)) ∧ W = w' :=
  (unsigned_doc n 2 h0 h1 W).mono fun _ _ ⟨he, hw⟩ => ⟨by rw [he, uns2], hw⟩
set_option maxHeartbeats 400000 in
theorem sd2 (n : Int) (h0 : 0 ≤ n) (h1 : n ≤ 18446744073709551615) (W : World) :
    Calls Tryz.prog 74 #[.int .u64 n, .int .i64 2] W fun e w' => e = .returned (.int .i64 (sgn n 2)) ∧ W = w' := by
  rw [sgn2]
  by_cases hp : 32768 ≤ n % 65536
  all_goals
    go_enter Tryz.func74, Tryz.ntmps74
    go_wp2_with fail
    refine (within_yes _ _ _ (by omega) (by omega) _).mono ?_; rintro e w' ⟨rfl, rfl⟩
    go_wp2_with fail
    refine (ud2 n h0 h1 _).mono ?_; rintro e w' ⟨rfl, rfl⟩
    go_wp2_with fail
    refine (pw2 _).mono ?_; rintro e w' ⟨rfl, rfl⟩
    go_wp2_with fail
    go_ret
    exact ⟨ret_int (by simp), rfl⟩
theorem pw3 (W : World) : Calls Tryz.prog 119 #[.int .i64 3] W fun e w' => e = .returned (.tuple #[.int .u64 16777216, .bool true]) ∧ W = w' :=
  (power_any 3 (by omega) W).mono fun _ _ ⟨he, hw⟩ => ⟨by rw [he]; rfl, hw⟩
theorem ud3 (n : Int) (h0 : 0 ≤ n) (h1 : n ≤ 18446744073709551615) (W : World) : Calls Tryz.prog 118 #[.int .u64 n, .int .i64 3] W fun e w' => e = .returned (.int .u64 (n % 16777216)) ∧ W = w' :=
  (unsigned_doc n 3 h0 h1 W).mono fun _ _ ⟨he, hw⟩ => ⟨by rw [he, uns3], hw⟩
set_option maxHeartbeats 400000 in
theorem sd3 (n : Int) (h0 : 0 ≤ n) (h1 : n ≤ 18446744073709551615) (W : World) :
    Calls Tryz.prog 74 #[.int .u64 n, .int .i64 3] W fun e w' => e = .returned (.int .i64 (sgn n 3)) ∧ W = w' := by
  rw [sgn3]
  by_cases hp : 8388608 ≤ n % 16777216
  all_goals
    go_enter Tryz.func74, Tryz.ntmps74
    go_wp2_with fail
    refine (within_yes _ _ _ (by omega) (by omega) _).mono ?_; rintro e w' ⟨rfl, rfl⟩
    go_wp2_with fail
    refine (ud3 n h0 h1 _).mono ?_; rintro e w' ⟨rfl, rfl⟩
    go_wp2_with fail
    refine (pw3 _).mono ?_; rintro e w' ⟨rfl, rfl⟩
    go_wp2_with fail
    go_ret
    exact ⟨ret_int (by simp), rfl⟩
theorem pw4 (W : World) : Calls Tryz.prog 119 #[.int .i64 4] W fun e w' => e = .returned (.tuple #[.int .u64 4294967296, .bool true]) ∧ W = w' :=
  (power_any 4 (by omega) W).mono fun _ _ ⟨he, hw⟩ => ⟨by rw [he]; rfl, hw⟩
theorem ud4 (n : Int) (h0 : 0 ≤ n) (h1 : n ≤ 18446744073709551615) (W : World) : Calls Tryz.prog 118 #[.int .u64 n, .int .i64 4] W fun e w' => e = .returned (.int .u64 (n % 4294967296)) ∧ W = w' :=
  (unsigned_doc n 4 h0 h1 W).mono fun _ _ ⟨he, hw⟩ => ⟨by rw [he, uns4], hw⟩
set_option maxHeartbeats 400000 in
theorem sd4 (n : Int) (h0 : 0 ≤ n) (h1 : n ≤ 18446744073709551615) (W : World) :
    Calls Tryz.prog 74 #[.int .u64 n, .int .i64 4] W fun e w' => e = .returned (.int .i64 (sgn n 4)) ∧ W = w' := by
  rw [sgn4]
  by_cases hp : 2147483648 ≤ n % 4294967296
  all_goals
    go_enter Tryz.func74, Tryz.ntmps74
    go_wp2_with fail
    refine (within_yes _ _ _ (by omega) (by omega) _).mono ?_; rintro e w' ⟨rfl, rfl⟩
    go_wp2_with fail
    refine (ud4 n h0 h1 _).mono ?_; rintro e w' ⟨rfl, rfl⟩
    go_wp2_with fail
    refine (pw4 _).mono ?_; rintro e w' ⟨rfl, rfl⟩
    go_wp2_with fail
    go_ret
    exact ⟨ret_int (by simp), rfl⟩
theorem pw5 (W : World) : Calls Tryz.prog 119 #[.int .i64 5] W fun e w' => e = .returned (.tuple #[.int .u64 1099511627776, .bool true]) ∧ W = w' :=
  (power_any 5 (by omega) W).mono fun _ _ ⟨he, hw⟩ => ⟨by rw [he]; rfl, hw⟩
theorem ud5 (n : Int) (h0 : 0 ≤ n) (h1 : n ≤ 18446744073709551615) (W : World) : Calls Tryz.prog 118 #[.int .u64 n, .int .i64 5] W fun e w' => e = .returned (.int .u64 (n % 1099511627776)) ∧ W = w' :=
  (unsigned_doc n 5 h0 h1 W).mono fun _ _ ⟨he, hw⟩ => ⟨by rw [he, uns5], hw⟩
set_option maxHeartbeats 400000 in
theorem sd5 (n : Int) (h0 : 0 ≤ n) (h1 : n ≤ 18446744073709551615) (W : World) :
    Calls Tryz.prog 74 #[.int .u64 n, .int .i64 5] W fun e w' => e = .returned (.int .i64 (sgn n 5)) ∧ W = w' := by
  rw [sgn5]
  by_cases hp : 549755813888 ≤ n % 1099511627776
  all_goals
    go_enter Tryz.func74, Tryz.ntmps74
    go_wp2_with fail
    refine (within_yes _ _ _ (by omega) (by omega) _).mono ?_; rintro e w' ⟨rfl, rfl⟩
    go_wp2_with fail
    refine (ud5 n h0 h1 _).mono ?_; rintro e w' ⟨rfl, rfl⟩
    go_wp2_with fail
    refine (pw5 _).mono ?_; rintro e w' ⟨rfl, rfl⟩
    go_wp2_with fail
    go_ret
    exact ⟨ret_int (by simp), rfl⟩
theorem pw6 (W : World) : Calls Tryz.prog 119 #[.int .i64 6] W fun e w' => e = .returned (.tuple #[.int .u64 281474976710656, .bool true]) ∧ W = w' :=
  (power_any 6 (by omega) W).mono fun _ _ ⟨he, hw⟩ => ⟨by rw [he]; rfl, hw⟩
theorem ud6 (n : Int) (h0 : 0 ≤ n) (h1 : n ≤ 18446744073709551615) (W : World) : Calls Tryz.prog 118 #[.int .u64 n, .int .i64 6] W fun e w' => e = .returned (.int .u64 (n % 281474976710656)) ∧ W = w' :=
  (unsigned_doc n 6 h0 h1 W).mono fun _ _ ⟨he, hw⟩ => ⟨by rw [he, uns6], hw⟩
set_option maxHeartbeats 400000 in
theorem sd6 (n : Int) (h0 : 0 ≤ n) (h1 : n ≤ 18446744073709551615) (W : World) :
    Calls Tryz.prog 74 #[.int .u64 n, .int .i64 6] W fun e w' => e = .returned (.int .i64 (sgn n 6)) ∧ W = w' := by
  rw [sgn6]
  by_cases hp : 140737488355328 ≤ n % 281474976710656
  all_goals
    go_enter Tryz.func74, Tryz.ntmps74
    go_wp2_with fail
    refine (within_yes _ _ _ (by omega) (by omega) _).mono ?_; rintro e w' ⟨rfl, rfl⟩
    go_wp2_with fail
    refine (ud6 n h0 h1 _).mono ?_; rintro e w' ⟨rfl, rfl⟩
    go_wp2_with fail
    refine (pw6 _).mono ?_; rintro e w' ⟨rfl, rfl⟩
    go_wp2_with fail
    go_ret
    exact ⟨ret_int (by simp), rfl⟩
theorem pw7 (W : World) : Calls Tryz.prog 119 #[.int .i64 7] W fun e w' => e = .returned (.tuple #[.int .u64 72057594037927936, .bool true]) ∧ W = w' :=
  (power_any 7 (by omega) W).mono fun _ _ ⟨he, hw⟩ => ⟨by rw [he]; rfl, hw⟩
theorem ud7 (n : Int) (h0 : 0 ≤ n) (h1 : n ≤ 18446744073709551615) (W : World) : Calls Tryz.prog 118 #[.int .u64 n, .int .i64 7] W fun e w' => e = .returned (.int .u64 (n % 72057594037927936)) ∧ W = w' :=
  (unsigned_doc n 7 h0 h1 W).mono fun _ _ ⟨he, hw⟩ => ⟨by rw [he, uns7], hw⟩
set_option maxHeartbeats 400000 in
theorem sd7 (n : Int) (h0 : 0 ≤ n) (h1 : n ≤ 18446744073709551615) (W : World) :
    Calls Tryz.prog 74 #[.int .u64 n, .int .i64 7] W fun e w' => e = .returned (.int .i64 (sgn n 7)) ∧ W = w' := by
  rw [sgn7]
  by_cases hp : 36028797018963968 ≤ n % 72057594037927936
  all_goals
    go_enter Tryz.func74, Tryz.ntmps74
    go_wp2_with fail
    refine (within_yes _ _ _ (by omega) (by omega) _).mono ?_; rintro e w' ⟨rfl, rfl⟩
    go_wp2_with fail
    refine (ud7 n h0 h1 _).mono ?_; rintro e w' ⟨rfl, rfl⟩
    go_wp2_with fail
    refine (pw7 _).mono ?_; rintro e w' ⟨rfl, rfl⟩
    go_wp2_with fail
    go_ret
    exact ⟨ret_int (by simp), rfl⟩
set_option maxHeartbeats 400000 in
theorem sd8 (n : Int) (h0 : 0 ≤ n) (h1 : n ≤ 18446744073709551615) (W : World) :
    Calls Tryz.prog 74 #[.int .u64 n, .int .i64 8] W fun e w' => e = .returned (.int .i64 (sgn n 8)) ∧ W = w' := by
  go_enter Tryz.func74, Tryz.ntmps74
  go_wp2_with fail
  refine (within_yes _ _ _ (by omega) (by omega) _).mono ?_; rintro e w' ⟨rfl, rfl⟩
  go_wp2_with fail
  refine (unsigned_doc n 8 h0 h1 _).mono ?_; rintro e w' ⟨rfl, rfl⟩
  rw [uns8]
  go_wp2_with fail
  refine (power_8 _).mono ?_; rintro e w' ⟨rfl, rfl⟩
  go_wp2_with fail
  go_ret
  exact ⟨ret_int rfl, rfl⟩
theorem signed_doc (n w : Int) (h0 : 0 ≤ n) (h1 : n ≤ 18446744073709551615) (W : World) :
    Calls Tryz.prog 74 #[.int .u64 n, .int .i64 w] W fun e w' => e = .returned (.int .i64 (sgn n w)) ∧ W = w' := by
  by_cases hw1 : w < 1
  · go_enter Tryz.func74, Tryz.ntmps74
    go_wp2_with (go_at_call 101; refine (within_no _ _ _ (by omega) _).mono ?_; rintro e w' ⟨rfl, rfl⟩)
    go_ret
    exact ⟨ret_int (by simp [sgn, hw1]), rfl⟩
  by_cases hw2 : 8 < w
  · go_enter Tryz.func74, Tryz.ntmps74
    go_wp2_with (go_at_call 101; refine (within_no _ _ _ (by omega) _).mono ?_; rintro e w' ⟨rfl, rfl⟩)
    go_ret
    exact ⟨ret_int (by simp [sgn, hw2]), rfl⟩
  rcases width_cases hw1 hw2 with rfl | rfl | rfl | rfl | rfl | rfl | rfl | rfl
  · exact sd1 n h0 h1 W
  · exact sd2 n h0 h1 W
  · exact sd3 n h0 h1 W
  · exact sd4 n h0 h1 W
  · exact sd5 n h0 h1 W
  · exact sd6 n h0 h1 W
  · exact sd7 n h0 h1 W
  · exact sd8 n h0 h1 W

/-! ### which ones fit -/
def fit (n w : Int) : Bool := if w < 1 ∨ 8 < w then false else if w = 8 then true else decide (-(256 ^ w.toNat / 2 : Nat) ≤ n ∧ n < (256 ^ w.toNat / 2 : Nat))
def fiu (n w : Int) : Bool := if w < 1 ∨ 8 < w then false else if w = 8 then decide (0 ≤ n) else decide (0 ≤ n ∧ n < (256 ^ w.toNat : Nat))
theorem fit1 (n : Int) : fit n 1 = decide (-128 ≤ n ∧ n < 128) := rfl
theorem fiu1 (n : Int) : fiu n 1 = decide (0 ≤ n ∧ n < 256) := rfl
theorem fit2 (n : Int) : fit n 2 = decide (-32768 ≤ n ∧ n < 32768) := rfl
theorem fiu2 (n : Int) : fiu n 2 = decide (0 ≤ n ∧ n < 65536) := rfl
theorem fit3 (n : Int) : fit n 3 = decide (-8388608 ≤ n ∧ n < 8388608) := rfl
theorem fiu3 (n : Int) : fiu n 3 = decide (0 ≤ n ∧ n < 16777216) := rfl
theorem fit4 (n : Int) : fit n 4 = decide (-2147483648 ≤ n ∧ n < 2147483648) := rfl
theorem fiu4 (n : Int) : fiu n 4 = decide (0 ≤ n ∧ n < 4294967296) := rfl
theorem fit5 (n : Int) : fit n 5 = decide (-549755813888 ≤ n ∧ n < 549755813888) := rfl
theorem fiu5 (n : Int) : fiu n 5 = decide (0 ≤ n ∧ n < 1099511627776) := rfl
theorem fit6 (n : Int) : fit n 6 = decide (-140737488355328 ≤ n ∧ n < 140737488355328) := rfl
theorem fiu6 (n : Int) : fiu n 6 = decide (0 ≤ n ∧ n < 281474976710656) := rfl
theorem fit7 (n : Int) : fit n 7 = decide (-36028797018963968 ≤ n ∧ n < 36028797018963968) := rfl
theorem fiu7 (n : Int) : fiu n 7 = decide (0 ≤ n ∧ n < 72057594037927936) := rfl
theorem fit8 (n : Int) : fit n 8 = true := rfl
theorem fiu8 (n : Int) : fiu n 8 = decide (0 ≤ n) := rfl

theorem u64_bd (n : Int) : 0 ≤ IntKind.u64.wrap n ∧ IntKind.u64.wrap n ≤ 18446744073709551615 := by rw [IntKind.wrap_u64]; omega
theorem fit_eq (n w : Int) (h0 : -9223372036854775808 ≤ n) (h1 : n ≤ 9223372036854775807) (hw1 : ¬ w < 1) (hw2 : ¬ 8 < w) : (sgn (IntKind.u64.wrap n) w == n) = fit n w := by
  rcases width_cases hw1 hw2 with rfl | rfl | rfl | rfl | rfl | rfl | rfl | rfl
  all_goals
    clear hw1 hw2
    rw [Bool.eq_iff_iff]
    simp only [sgn1, sgn2, sgn3, sgn4, sgn5, sgn6, sgn7, sgn8, fit1, fit2, fit3, fit4, fit5, fit6, fit7, fit8, wrap64, IntKind.wrap_u64, beq_iff_eq, decide_eq_true_eq, iff_true]
  all_goals first | omega | (split <;> omega)
theorem fiu_eq (n w : Int) (h0 : 0 ≤ n) (h1 : n ≤ 9223372036854775807) (hw1 : ¬ w < 1) (hw2 : ¬ 8 < w) : (uns n w == n) = fiu n w := by
  rcases width_cases hw1 hw2 with rfl | rfl | rfl | rfl | rfl | rfl | rfl | rfl
  all_goals
    clear hw1 hw2
    rw [Bool.eq_iff_iff]
    simp only [uns1, uns2, uns3, uns4, uns5, uns6, uns7, uns8, fiu1, fiu2, fiu3, fiu4, fiu5, fiu6, fiu7, fiu8, IntKind.wrap_u64, beq_iff_eq, decide_eq_true_eq]
  all_goals first | omega | (simp; omega)

theorem fiu_neg (n w : Int) (hn : n < 0) : fiu n w = false := by
  unfold fiu
  split
  · rfl
  split
  · simp; omega
  · simp; omega
set_option maxHeartbeats 400000 in
theorem fits_s (n w : Int) (h0 : -9223372036854775808 ≤ n) (h1 : n ≤ 9223372036854775807) (W : World) :
    Calls Tryz.prog 56 #[.int .i64 n, .int .i64 w, .bool true] W fun e w' => e = .returned (.bool (fit n w)) ∧ W = w' := by
  by_cases hw1 : w < 1
  · go_enter Tryz.func56, Tryz.ntmps56
    go_wp2_with fail
    go_ret
    exact ⟨ret_bool (by simp [fit, hw1]), rfl⟩
  by_cases hw2 : 8 < w
  · go_enter Tryz.func56, Tryz.ntmps56
    go_wp2_with fail
    go_ret
    exact ⟨ret_bool (by simp [fit, hw2]), rfl⟩
  rw [← fit_eq n w h0 h1 hw1 hw2]
  go_enter Tryz.func56, Tryz.ntmps56
  obtain ⟨g0, g1⟩ := u64_bd n
  go_wp2_with (go_at_call 81; refine (signed_any _ _ (by assumption) (by assumption) _).mono ?_; rintro e w' ⟨rfl, rfl⟩)
  go_ret
  exact ⟨rfl, rfl⟩
set_option maxHeartbeats 400000 in
theorem fits_u (n w : Int) (h0 : -9223372036854775808 ≤ n) (h1 : n ≤ 9223372036854775807) (W : World) :
    Calls Tryz.prog 56 #[.int .i64 n, .int .i64 w, .bool false] W fun e w' => e = .returned (.bool (fiu n w)) ∧ W = w' := by
  by_cases hw1 : w < 1
  · go_enter Tryz.func56, Tryz.ntmps56
    go_wp2_with fail
    go_ret
    exact ⟨ret_bool (by simp [fiu, hw1]), rfl⟩
  by_cases hw2 : 8 < w
  · go_enter Tryz.func56, Tryz.ntmps56
    go_wp2_with fail
    go_ret
    exact ⟨ret_bool (by simp [fiu, hw2]), rfl⟩
  by_cases hn : 0 ≤ n
  · rw [← fiu_eq n w hn h1 hw1 hw2]
    go_enter Tryz.func56, Tryz.ntmps56
    go_wp2_with (go_at_call 103; refine (unsigned_any _ _ (by omega) (by omega) _).mono ?_; rintro e w' ⟨rfl, rfl⟩)
    go_ret
    exact ⟨rfl, rfl⟩
  · go_enter Tryz.func56, Tryz.ntmps56
    go_wp2_with fail
    go_ret
    exact ⟨ret_bool (fiu_neg n w (by omega)).symm, rfl⟩


set_option maxHeartbeats 400000 in
theorem dfs1 (n : Int) (h0 : -9223372036854775808 ≤ n) (h1 : n ≤ 9223372036854775807) (W : World) :
    Calls Tryz.prog 86 #[.int .i64 n, .int .i64 1, .bool true] W fun e w' => e = .returned (.bool (fit n 1)) ∧ W = w' := by
  rw [fit1]
  by_cases hp : -128 ≤ n
  all_goals
    go_enter Tryz.func86, Tryz.ntmps86
    go_wp2_with fail
    refine (within_yes _ _ _ (by omega) (by omega) _).mono ?_; rintro e w' ⟨rfl, rfl⟩
    go_wp2_with fail
    refine (pw1 _).mono ?_; rintro e w' ⟨rfl, rfl⟩
    go_wp2_with fail
    go_ret
    exact ⟨ret_bool (by rw [Bool.eq_iff_iff]; simp; omega), rfl⟩
set_option maxHeartbeats 400000 in
theorem dfs2 (n : Int) (h0 : -9223372036854775808 ≤ n) (h1 : n ≤ 9223372036854775807) (W : World) :
    Calls Tryz.prog 86 #[.int .i64 n, .int .i64 2, .bool true] W fun e w' => e = .returned (.bool (fit n 2)) ∧ W = w' := by
  rw [fit2]
  by_cases hp : -32768 ≤ n
  all_goals
    go_enter Tryz.func86, Tryz.ntmps86
    go_wp2_with fail
    refine (within_yes _ _ _ (by omega) (by omega) _).mono ?_; rintro e w' ⟨rfl, rfl⟩
    go_wp2_with fail
    refine (pw2 _).mono ?_; rintro e w' ⟨rfl, rfl⟩
    go_wp2_with fail
    go_ret
    exact ⟨ret_bool (by rw [Bool.eq_iff_iff]; simp; omega), rfl⟩
set_option maxHeartbeats 400000 in
theorem dfs3 (n : Int) (h0 : -9223372036854775808 ≤ n) (h1 : n ≤ 9223372036854775807) (W : World) :
    Calls Tryz.prog 86 #[.int .i64 n, .int .i64 3, .bool true] W fun e w' => e = .returned (.bool (fit n 3)) ∧ W = w' := by
  rw [fit3]
  by_cases hp : -8388608 ≤ n
  all_goals
    go_enter Tryz.func86, Tryz.ntmps86
    go_wp2_with fail
    refine (within_yes _ _ _ (by omega) (by omega) _).mono ?_; rintro e w' ⟨rfl, rfl⟩
    go_wp2_with fail
    refine (pw3 _).mono ?_; rintro e w' ⟨rfl, rfl⟩
    go_wp2_with fail
    go_ret
    exact ⟨ret_bool (by rw [Bool.eq_iff_iff]; simp; omega), rfl⟩
set_option maxHeartbeats 400000 in
theorem dfs4 (n : Int) (h0 : -9223372036854775808 ≤ n) (h1 : n ≤ 9223372036854775807) (W : World) :
    Calls Tryz.prog 86 #[.int .i64 n, .int .i64 4, .bool true] W fun e w' => e = .returned (.bool (fit n 4)) ∧ W = w' := by
  rw [fit4]
  by_cases hp : -2147483648 ≤ n
  all_goals
    go_enter Tryz.func86, Tryz.ntmps86
    go_wp2_with fail
    refine (within_yes _ _ _ (by omega) (by omega) _).mono ?_; rintro e w' ⟨rfl, rfl⟩
    go_wp2_with fail
    refine (pw4 _).mono ?_; rintro e w' ⟨rfl, rfl⟩
    go_wp2_with fail
    go_ret
    exact ⟨ret_bool (by rw [Bool.eq_iff_iff]; simp; omega), rfl⟩
set_option maxHeartbeats 400000 in
theorem dfs5 (n : Int) (h0 : -9223372036854775808 ≤ n) (h1 : n ≤ 9223372036854775807) (W : World) :
    Calls Tryz.prog 86 #[.int .i64 n, .int .i64 5, .bool true] W fun e w' => e = .returned (.bool (fit n 5)) ∧ W = w' := by
  rw [fit5]
  by_cases hp : -549755813888 ≤ n
  all_goals
    go_enter Tryz.func86, Tryz.ntmps86
    go_wp2_with fail
    refine (within_yes _ _ _ (by omega) (by omega) _).mono ?_; rintro e w' ⟨rfl, rfl⟩
    go_wp2_with fail
    refine (pw5 _).mono ?_; rintro e w' ⟨rfl, rfl⟩
    go_wp2_with fail
    go_ret
    exact ⟨ret_bool (by rw [Bool.eq_iff_iff]; simp; omega), rfl⟩
set_option maxHeartbeats 400000 in
theorem dfs6 (n : Int) (h0 : -9223372036854775808 ≤ n) (h1 : n ≤ 9223372036854775807) (W : World) :
    Calls Tryz.prog 86 #[.int .i64 n, .int .i64 6, .bool true] W fun e w' => e = .returned (.bool (fit n 6)) ∧ W = w' := by
  rw [fit6]
  by_cases hp : -140737488355328 ≤ n
  all_goals
    go_enter Tryz.func86, Tryz.ntmps86
    go_wp2_with fail
    refine (within_yes _ _ _ (by omega) (by omega) _).mono ?_; rintro e w' ⟨rfl, rfl⟩
    go_wp2_with fail
    refine (pw6 _).mono ?_; rintro e w' ⟨rfl, rfl⟩
    go_wp2_with fail
    go_ret
    exact ⟨ret_bool (by rw [Bool.eq_iff_iff]; simp; omega), rfl⟩
set_option maxHeartbeats 400000 in
theorem dfs7 (n : Int) (h0 : -9223372036854775808 ≤ n) (h1 : n ≤ 9223372036854775807) (W : World) :
    Calls Tryz.prog 86 #[.int .i64 n, .int .i64 7, .bool true] W fun e w' => e = .returned (.bool (fit n 7)) ∧ W = w' := by
  rw [fit7]
  by_cases hp : -36028797018963968 ≤ n
  all_goals
    go_enter Tryz.func86, Tryz.ntmps86
    go_wp2_with fail
    refine (within_yes _ _ _ (by omega) (by omega) _).mono ?_; rintro e w' ⟨rfl, rfl⟩
    go_wp2_with fail
    refine (pw7 _).mono ?_; rintro e w' ⟨rfl, rfl⟩
    go_wp2_with fail
    go_ret
    exact ⟨ret_bool (by rw [Bool.eq_iff_iff]; simp; omega), rfl⟩
set_option maxHeartbeats 400000 in
theorem dfs8 (n : Int) (h0 : -9223372036854775808 ≤ n) (h1 : n ≤ 9223372036854775807) (W : World) :
    Calls Tryz.prog 86 #[.int .i64 n, .int .i64 8, .bool true] W fun e w' => e = .returned (.bool (fit n 8)) ∧ W = w' := by
  rw [fit8]
  go_enter Tryz.func86, Tryz.ntmps86
  go_wp2_with fail
  refine (within_yes _ _ _ (by omega) (by omega) _).mono ?_; rintro e w' ⟨rfl, rfl⟩
  go_wp2_with fail
  go_ret
  exact ⟨rfl, rfl⟩
theorem docfits_s (n w : Int) (h0 : -9223372036854775808 ≤ n) (h1 : n ≤ 9223372036854775807) (W : World) :
    Calls Tryz.prog 86 #[.int .i64 n, .int .i64 w, .bool true] W fun e w' => e = .returned (.bool (fit n w)) ∧ W = w' := by
  by_cases hw1 : w < 1
  · go_enter Tryz.func86, Tryz.ntmps86
    go_wp2_with (go_at_call 101; refine (within_no _ _ _ (by omega) _).mono ?_; rintro e w' ⟨rfl, rfl⟩)
    go_ret
    exact ⟨ret_bool (by simp [fit, hw1]), rfl⟩
  by_cases hw2 : 8 < w
  · go_enter Tryz.func86, Tryz.ntmps86
    go_wp2_with (go_at_call 101; refine (within_no _ _ _ (by omega) _).mono ?_; rintro e w' ⟨rfl, rfl⟩)
    go_ret
    exact ⟨ret_bool (by simp [fit, hw2]), rfl⟩
  rcases width_cases hw1 hw2 with rfl | rfl | rfl | rfl | rfl | rfl | rfl | rfl
  · exact dfs1 n h0 h1 W
  · exact dfs2 n h0 h1 W
  · exact dfs3 n h0 h1 W
  · exact dfs4 n h0 h1 W
  · exact dfs5 n h0 h1 W
  · exact dfs6 n h0 h1 W
  · exact dfs7 n h0 h1 W
  · exact dfs8 n h0 h1 W
set_option maxHeartbeats 400000 in
theorem dfu1 (n : Int) (h0 : -9223372036854775808 ≤ n) (h1 : n ≤ 9223372036854775807) (W : World) :
    Calls Tryz.prog 86 #[.int .i64 n, .int .i64 1, .bool false] W fun e w' => e = .returned (.bool (fiu n 1)) ∧ W = w' := by
  rw [fiu1]
  by_cases hp : 0 ≤ n
  all_goals
    go_enter Tryz.func86, Tryz.ntmps86
    go_wp2_with fail
    refine (within_yes _ _ _ (by omega) (by omega) _).mono ?_; rintro e w' ⟨rfl, rfl⟩
    go_wp2_with fail
    refine (pw1 _).mono ?_; rintro e w' ⟨rfl, rfl⟩
    go_wp2_with fail
    go_ret
    exact ⟨ret_bool (by rw [Bool.eq_iff_iff]; simp; omega), rfl⟩
set_option maxHeartbeats 400000 in
theorem dfu2 (n : Int) (h0 : -9223372036854775808 ≤ n) (h1 : n ≤ 9223372036854775807) (W : World) :
    Calls Tryz.prog 86 #[.int .i64 n, .int .i64 2, .bool false] W fun e w' => e = .returned (.bool (fiu n 2)) ∧ W = w' := by
  rw [fiu2]
  by_cases hp : 0 ≤ n
  all_goals
    go_enter Tryz.func86, Tryz.ntmps86
    go_wp2_with fail
    refine (within_yes _ _ _ (by omega) (by omega) _).mono ?_; rintro e w' ⟨rfl, rfl⟩
    go_wp2_with fail
    refine (pw2 _).mono ?_; rintro e w' ⟨rfl, rfl⟩
    go_wp2_with fail
    go_ret
    exact ⟨ret_bool (by rw [Bool.eq_iff_iff]; simp; omega), rfl⟩
set_option maxHeartbeats 400000 in
theorem dfu3 (n : Int) (h0 : -9223372036854775808 ≤ n) (h1 : n ≤ 9223372036854775807) (W : World) :
    Calls Tryz.prog 86 #[.int .i64 n, .int .i64 3, .bool false] W fun e w' => e = .returned (.bool (fiu n 3)) ∧ W = w' := by
  rw [fiu3]
  by_cases hp : 0 ≤ n
  all_goals
    go_enter Tryz.func86, Tryz.ntmps86
    go_wp2_with fail
    refine (within_yes _ _ _ (by omega) (by omega) _).mono ?_; rintro e w' ⟨rfl, rfl⟩
    go_wp2_with fail
    refine (pw3 _).mono ?_; rintro e w' ⟨rfl, rfl⟩
    go_wp2_with fail
    go_ret
    exact ⟨ret_bool (by rw [Bool.eq_iff_iff]; simp; omega), rfl⟩
set_option maxHeartbeats 400000 in
theorem dfu4 (n : Int) (h0 : -9223372036854775808 ≤ n) (h1 : n ≤ 9223372036854775807) (W : World) :
    Calls Tryz.prog 86 #[.int .i64 n, .int .i64 4, .bool false] W fun e w' => e = .returned (.bool (fiu n 4)) ∧ W = w' := by
  rw [fiu4]
  by_cases hp : 0 ≤ n
  all_goals
    go_enter Tryz.func86, Tryz.ntmps86
    go_wp2_with fail
    refine (within_yes _ _ _ (by omega) (by omega) _).mono ?_; rintro e w' ⟨rfl, rfl⟩
    go_wp2_with fail
    refine (pw4 _).mono ?_; rintro e w' ⟨rfl, rfl⟩
    go_wp2_with fail
    go_ret
    exact ⟨ret_bool (by rw [Bool.eq_iff_iff]; simp; omega), rfl⟩
set_option maxHeartbeats 400000 in
theorem dfu5 (n : Int) (h0 : -9223372036854775808 ≤ n) (h1 : n ≤ 9223372036854775807) (W : World) :
    Calls Tryz.prog 86 #[.int .i64 n, .int .i64 5, .bool false] W fun e w' => e = .returned (.bool (fiu n 5)) ∧ W = w' := by
  rw [fiu5]
  by_cases hp : 0 ≤ n
  all_goals
    go_enter Tryz.func86, Tryz.ntmps86
    go_wp2_with fail
    refine (within_yes _ _ _ (by omega) (by omega) _).mono ?_; rintro e w' ⟨rfl, rfl⟩
    go_wp2_with fail
    refine (pw5 _).mono ?_; rintro e w' ⟨rfl, rfl⟩
    go_wp2_with fail
    go_ret
    exact ⟨ret_bool (by rw [Bool.eq_iff_iff]; simp; omega), rfl⟩
set_option maxHeartbeats 400000 in
theorem dfu6 (n : Int) (h0 : -9223372036854775808 ≤ n) (h1 : n ≤ 9223372036854775807) (W : World) :
    Calls Tryz.prog 86 #[.int .i64 n, .int .i64 6, .bool false] W fun e w' => e = .returned (.bool (fiu n 6)) ∧ W = w' := by
  rw [fiu6]
  by_cases hp : 0 ≤ n
  all_goals
    go_enter Tryz.func86, Tryz.ntmps86
    go_wp2_with fail
    refine (within_yes _ _ _ (by omega) (by omega) _).mono ?_; rintro e w' ⟨rfl, rfl⟩
    go_wp2_with fail
    refine (pw6 _).mono ?_; rintro e w' ⟨rfl, rfl⟩
    go_wp2_with fail
    go_ret
    exact ⟨ret_bool (by rw [Bool.eq_iff_iff]; simp; omega), rfl⟩
set_option maxHeartbeats 400000 in
theorem dfu7 (n : Int) (h0 : -9223372036854775808 ≤ n) (h1 : n ≤ 9223372036854775807) (W : World) :
    Calls Tryz.prog 86 #[.int .i64 n, .int .i64 7, .bool false] W fun e w' => e = .returned (.bool (fiu n 7)) ∧ W = w' := by
  rw [fiu7]
  by_cases hp : 0 ≤ n
  all_goals
    go_enter Tryz.func86, Tryz.ntmps86
    go_wp2_with fail
    refine (within_yes _ _ _ (by omega) (by omega) _).mono ?_; rintro e w' ⟨rfl, rfl⟩
    go_wp2_with fail
    refine (pw7 _).mono ?_; rintro e w' ⟨rfl, rfl⟩
    go_wp2_with fail
    go_ret
    exact ⟨ret_bool (by rw [Bool.eq_iff_iff]; simp; omega), rfl⟩
set_option maxHeartbeats 400000 in
theorem dfu8 (n : Int) (h0 : -9223372036854775808 ≤ n) (h1 : n ≤ 9223372036854775807) (W : World) :
    Calls Tryz.prog 86 #[.int .i64 n, .int .i64 8, .bool false] W fun e w' => e = .returned (.bool (fiu n 8)) ∧ W = w' := by
  rw [fiu8]
  go_enter Tryz.func86, Tryz.ntmps86
  go_wp2_with fail
  refine (within_yes _ _ _ (by omega) (by omega) _).mono ?_; rintro e w' ⟨rfl, rfl⟩
  go_wp2_with fail
  go_ret
  exact ⟨rfl, rfl⟩
theorem docfits_u (n w : Int) (h0 : -9223372036854775808 ≤ n) (h1 : n ≤ 9223372036854775807) (W : World) :
    Calls Tryz.prog 86 #[.int .i64 n, .int .i64 w, .bool false] W fun e w' => e = .returned (.bool (fiu n w)) ∧ W = w' := by
  by_cases hw1 : w < 1
  · go_enter Tryz.func86, Tryz.ntmps86
    go_wp2_with (go_at_call 101; refine (within_no _ _ _ (by omega) _).mono ?_; rintro e w' ⟨rfl, rfl⟩)
    go_ret
    exact ⟨ret_bool (by simp [fiu, hw1]), rfl⟩
  by_cases hw2 : 8 < w
  · go_enter Tryz.func86, Tryz.ntmps86
    go_wp2_with (go_at_call 101; refine (within_no _ _ _ (by omega) _).mono ?_; rintro e w' ⟨rfl, rfl⟩)
    go_ret
    exact ⟨ret_bool (by simp [fiu, hw2]), rfl⟩
  rcases width_cases hw1 hw2 with rfl | rfl | rfl | rfl | rfl | rfl | rfl | rfl
  · exact dfu1 n h0 h1 W
  · exact dfu2 n h0 h1 W
  · exact dfu3 n h0 h1 W
  · exact dfu4 n h0 h1 W
  · exact dfu5 n h0 h1 W
  · exact dfu6 n h0 h1 W
  · exact dfu7 n h0 h1 W
  · exact dfu8 n h0 h1 W

end Go.Proofs.YtkopjmofdnlplaaGreatDoor.Ws
