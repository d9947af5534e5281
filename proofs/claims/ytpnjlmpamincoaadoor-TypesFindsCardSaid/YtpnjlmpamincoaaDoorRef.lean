/-
  PROVED HERE: contracts of the document's small helpers (within alone). Conditions: as each theorem states.
-/
import Derived.Test.YtpnjlmpamincoaaDoorRows
import Derived.Test.YtpnjlmpamincoaaDoorMem
namespace Go.Proofs.YtpnjlmpamincoaaDoor.Ref
open Go.RowKit

theorem within_yes (n lo hi : Int) (h1 : lo ≤ n) (h2 : n ≤ hi) (W : World) :
    Calls Tryd.prog 37 #[.int .i64 n, .int .i64 lo, .int .i64 hi] W fun e w' => e = .returned (.bool true) ∧ W = w' := by
  go_enter Tryd.func37, Tryd.ntmps37
  go_wp2
  go_ret
  exact ⟨by simp, rfl⟩
theorem within_no (n lo hi : Int) (h : n < lo ∨ hi < n) (W : World) :
    Calls Tryd.prog 37 #[.int .i64 n, .int .i64 lo, .int .i64 hi] W fun e w' => e = .returned (.bool false) ∧ W = w' := by
  rcases h with h | h
  · have hd : decide (lo ≤ n) = false := by simp; omega
    go_enter Tryd.func37, Tryd.ntmps37
    go_wp2
    go_ret
    exact ⟨by simp, rfl⟩
  · by_cases h1 : lo ≤ n
    · have hd : decide (n ≤ hi) = false := by simp; omega
      go_enter Tryd.func37, Tryd.ntmps37
      go_wp2
      go_ret
      exact ⟨by simp, rfl⟩
    · have hd : decide (lo ≤ n) = false := by simp; omega
      go_enter Tryd.func37, Tryd.ntmps37
      go_wp2
      go_ret
      exact ⟨by simp, rfl⟩
theorem within_any (n lo hi : Int) (W : World) :
    Calls Tryd.prog 37 #[.int .i64 n, .int .i64 lo, .int .i64 hi] W fun e w' => e = .returned (.bool (decide (lo ≤ n ∧ n ≤ hi))) ∧ W = w' := by
  by_cases h : lo ≤ n ∧ n ≤ hi
  · rw [decide_eq_true h]; exact within_yes n lo hi h.1 h.2 W
  · rw [decide_eq_false h]; exact within_no n lo hi (by omega) W
end Go.Proofs.YtpnjlmpamincoaaDoor.Ref
