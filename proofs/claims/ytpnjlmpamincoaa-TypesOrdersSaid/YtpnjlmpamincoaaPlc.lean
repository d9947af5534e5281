/-
  PROVED HERE: the contracts of the laws' own placed and of the document's Good. Conditions: as each theorem states.
-/
import Derived.Test.YtpnjlmpamincoaaOwn
import Derived.Test.YtpnjlmpamincoaaErrB
namespace Go.Proofs.Ytpnjlmpamincoaa.Chr
open Go.RowKit

theorem good_any (W : World) : Calls Try.prog 21 #[] W fun e w' => e = .returned (.agg #[.int .i64 0, .int .i64 (-1)]) ∧ Below W.heap.size W w' := by
  go_enter Try.func21, Try.ntmps21
  go_wp2_with fail
  refine bodyPost_ret (v := .agg #[.int .i64 0, .int .i64 (-1)]) (by simp [results, Try.results21, go_sem]) rfl ⟨rfl, ?_⟩
  exact (Below.refl _ _).alloc (Nat.le_refl _) _

end Go.Proofs.Ytpnjlmpamincoaa.Chr
