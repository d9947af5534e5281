/-
  PROVED HERE: the contracts of the document's one, and of its SumOf at sums that can't be made. Conditions: as each theorem states.
-/
import Derived.Test.YtifnochpmlllgaaDoorSumG
namespace Go.Proofs.YtifnochpmlllgaaDoor.Sum
open Go.RowKit
theorem one_b (b : Bool) (W : World) : Calls Tryd.prog 89 #[.bool b] W fun e w' => e = .returned (.int .i64 (b.toNat : Nat)) ∧ w' = W := by
  cases b
  all_goals
    go_enter Tryd.func89, Tryd.ntmps89
    go_wp2_with fail
    go_ret
    exact ⟨rfl, rfl⟩
def DSP (v : Nat) (c : Int) (W : World) (e : Ending) (w' : World) : Prop := e = .returned (.tuple #[.int .u32 v, .int .i64 c]) ∧ Below W.heap.size W w'
set_option maxRecDepth 100000 in
set_option maxHeartbeats 2000000 in
theorem docOf_no (w : Int) (P : Nat) (t : Bool) (I O : Nat) (s : ByteArray) (hg : ¬ good w P I O) (hw : -9223372036854775808 ≤ w ∧ w ≤ 9223372036854775807) (hP : P < 4294967296) (hI : I < 4294967296) (hO : O < 4294967296) (W : World) :
    Calls Tryd.prog 42 #[Sm w P t I O, .string s] W (DSP 0 1 W) := by
  have R := Lib.hid (docRight_any w P t I O hw hP hI hO)
  rw [decide_eq_false hg] at R
  unfold Sm at R ⊢
  clear hg
  go_enter Tryd.func42, Tryd.ntmps42
  go_wp2_with fail
  refine (R.out _).mono ?_; rintro e w1 ⟨rfl, h1⟩
  have H1 := Lib.hid (((Below.refl W.heap.size W).alloc (Nat.le_refl _) _).trans (h1.mono (by simp)))
  clear h1
  go_wp2_with fail
  go_ret2
  exact ⟨rfl, H1.out⟩
end Go.Proofs.YtifnochpmlllgaaDoor.Sum
