/-
  PROVED HERE: contracts of the document's small helpers (within alone). Conditions: as each theorem states.
-/
import Derived.Test.YtofmheeiplagjaaGreatDoorRows
import Derived.Test.YtofmheeiplagjaaGreatDoorMem
namespace Go.Proofs.YtofmheeiplagjaaGreatDoor.Ref
open Go.RowKit

theorem within_yes (n lo hi : Int) (h1 : lo ≤ n) (h2 : n ≤ hi) (W : World) :
    Calls Tryz.prog 59 #[.int .i64 n, .int .i64 lo, .int .i64 hi] W fun e w' => e = .returned (.bool true) ∧ W = w' := by
  go_enter Tryz.func59, Tryz.ntmps59
  go_wp2
  go_ret
  exact ⟨by simp, rfl⟩
theorem within_no (n lo hi : Int) (h : n < lo ∨ hi < n) (W : World) :
    Calls Tryz.prog 59 #[.int .i64 n, .int .i64 lo, .int .i64 hi] W fun e w' => e = .returned (.bool false) ∧ W = w' := by
  rcases h with h | h
  · have hd : decide (lo ≤ n) = false := by simp; omega
    go_enter Tryz.func59, Tryz.ntmps59
    go_wp2
    go_ret
    exact ⟨by simp, rfl⟩
  · by_cases h1 : lo ≤ n
    · have hd : decide (n ≤ hi) = false := by simp; omega
      go_enter Tryz.func59, Tryz.ntmps59
      go_wp2
      go_ret
      exact ⟨by simp, rfl⟩
    · have hd : decide (lo ≤ n) = false := by simp; omega
      go_enter Tryz.func59, Tryz.ntmps59
      go_wp2
      go_ret
      exact ⟨by simp, rfl⟩
theorem within_any (n lo hi : Int) (W : World) :
    Calls Tryz.prog 59 #[.int .i64 n, .int .i64 lo, .int .i64 hi] W fun e w' => e = .returned (.bool (decide (lo ≤ n ∧ n ≤ hi))) ∧ W = w' := by
  by_cases h : lo ≤ n ∧ n ≤ hi
  · rw [decide_eq_true h]; exact within_yes n lo hi h.1 h.2 W
  · rw [decide_eq_false h]; exact within_no n lo hi (by omega) W
end Go.Proofs.YtofmheeiplagjaaGreatDoor.Ref
