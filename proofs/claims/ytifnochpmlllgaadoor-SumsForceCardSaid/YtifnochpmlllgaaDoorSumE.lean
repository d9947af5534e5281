/-
  PROVED HERE: the contracts of sums.step at every sum that can be made, and of sums.out. Conditions: as each theorem states.
-/
import Derived.Test.YtifnochpmlllgaaDoorSumD
namespace Go.Proofs.YtifnochpmlllgaaDoor.Sum
open Go.RowKit
theorem step_any (w : Nat) (hw : w = 8 ∨ w = 16 ∨ w = 32) (P : Nat) (t : Bool) (I O r c : Nat) (hP : P < 2 ^ w) (hr : r < 2 ^ w) (hc : c < 256) (W : World) :
    Calls Tryd.prog 91 #[Sm w P t I O, .int .u32 r, .int .u8 c] W fun e w' => e = .returned (.int .u32 (stp w P t r c : Nat)) ∧ Below W.heap.size W w' := by
  rcases hw with rfl | rfl | rfl <;> cases t
  · exact step_8_false P I O r c hP hr hc W
  · exact step_8_true P I O r c hP hr hc W
  · exact step_16_false P I O r c hP hr hc W
  · exact step_16_true P I O r c hP hr hc W
  · exact step_32_false P I O r c hP hr hc W
  · exact step_32_true P I O r c hP hr hc W
/-- What a register tells. -/
def ou (w : Nat) (t : Bool) (r O : Nat) : Nat := (if t then rv r w else r) ^^^ O
set_option maxRecDepth 100000 in
set_option maxHeartbeats 1000000 in
theorem out_any (w : Nat) (hw : w ≤ 32) (P : Nat) (t : Bool) (I O r : Nat) (hO : O < 4294967296) (hr : r < 4294967296) (W : World) :
    Calls Tryd.prog 92 #[Sm w P t I O, .int .u32 r] W fun e w' => e = .returned (.int .u32 (ou w t r O : Nat)) ∧ Below W.heap.size W w' := by
  unfold Sm
  have hrv := rv_lt32 r w hw
  have X1 := Lib.hid (u32_xor_nat r O hr hO)
  have X2 := Lib.hid (u32_xor_nat (rv r w) O hrv hO)
  have T := Lib.hid (turned_any r w hw hr)
  cases t with
  | false =>
    go_enter Tryd.func92, Tryd.ntmps92
    go_wp2_with fail
    rw [X1.out]
    go_ret
    exact ⟨rfl, (Below.refl _ _).alloc (Nat.le_refl _) _⟩
  | true =>
    go_enter Tryd.func92, Tryd.ntmps92
    go_wp2_with fail
    refine (T.out _).mono ?_; rintro e w' ⟨rfl, rfl⟩
    go_wp2_with fail
    rw [X2.out]
    go_ret
    exact ⟨rfl, (Below.refl _ _).alloc (Nat.le_refl _) _⟩
end Go.Proofs.YtifnochpmlllgaaDoor.Sum
