/-
  PROVED HERE: the contract of the document's pow2. Conditions: as each theorem states.
-/
import Derived.Test.YtofmheeiplagjaaGreatDoorRows
import Derived.Test.YtofmheeiplagjaaGreatDoorOwn
namespace Go.Proofs.YtofmheeiplagjaaGreatDoor.Pow
open Go.RowKit

def p2 (j : Nat) : Nat := 2 ^ j
theorem p2_succ (j : Nat) : ((p2 (j + 1) : Nat) : Int) = (p2 j : Nat) * 2 := by rw [p2, Nat.pow_succ]; rfl
theorem p2_le (j : Nat) (h : j ≤ 62) : p2 j ≤ 4611686018427387904 := Nat.pow_le_pow_right (n := 2) (by omega) h
set_option maxHeartbeats 400000 in
theorem pow2_any (n : Nat) (h : n ≤ 63) (W : World) : Calls Tryz.prog 93 #[.int .i64 n] W fun e w' => e = .returned (.int .u64 (p2 n : Nat)) ∧ W = w' := by
  go_enter Tryz.func93, Tryz.ntmps93
  go_wp2
  go_loop [0, 3] (fun k n' => ∃ j : Nat, j ≤ n ∧ k = .int .i64 (n - j : Nat) ∧ n' = .int .u64 (p2 j : Nat)) (fun k _ => (intOf k).toNat)
  case atStart => exact ⟨0, Nat.zero_le _, rfl, rfl⟩
  case round =>
    obtain ⟨j, hj, rfl, rfl⟩ := hrel
    by_cases hlt : j < n
    · have hb := p2_le j (by omega)
      have HP := Lib.hid (p2_succ j)
      go_wp2
      go_round
      case rel => exact ⟨j + 1, by omega, by go_num, by rw [HP.out]⟩
      case measure => simp [intOf]; omega
    · obtain rfl : j = n := by omega
      go_wp2
      go_ret
      exact ⟨rfl, rfl⟩
theorem pow2_is (n : Int) (h0 : 0 ≤ n) (h : n ≤ 63) (v : Int) (hv : ((2 ^ n.toNat : Nat) : Int) = v) (W : World) : Calls Tryz.prog 93 #[.int .i64 n] W fun e w' => e = .returned (.int .u64 v) ∧ w' = W := by
  obtain ⟨n, rfl⟩ := Int.eq_ofNat_of_zero_le h0
  exact (pow2_any n (by omega) W).mono fun e w' ⟨he, hw⟩ => ⟨by rw [he]; rw [Int.toNat_natCast] at hv; rw [← hv]; rfl, hw.symm⟩
end Go.Proofs.YtofmheeiplagjaaGreatDoor.Pow
