/-
  PROVED HERE: the contracts of keys' Motion and of the document's IsMotion. Conditions: as each theorem states.
-/
import Derived.Test.YtifnochpmlllgaaKeyT
namespace Go.Proofs.Ytifnochpmlllgaa.Key
open Go.RowKit
def mo (op mv : UInt8) : Bool := decide (mv.toNat = 0) && (mot op || far op)
set_option maxRecDepth 100000 in
theorem motion_any (reg : UInt8) (n : Nat) (op mv : UInt8) (a : ByteArray) (W : World) : Calls Try.prog 6 #[.agg #[.int .u8 reg.toNat, .int .i64 n, .int .u8 op.toNat, .int .u8 mv.toNat, .string a]] W fun e w' => e = .returned (.bool (mo op mv)) ∧ w' = W.alloc (.cells #[.int .u8 reg.toNat, .int .i64 n, .int .u8 op.toNat, .int .u8 mv.toNat, .string a] 26) := by
  have Mo := has_is ⟨#[104, 108, 106, 107, 48, 36, 103, 71, 119, 98, 110, 78, 91, 93]⟩ mot ix_mot op
  have Fo := has_is ⟨#[39, 102]⟩ far ix_far op
  unfold mo
  generalize mot op = c1 at *
  generalize far op = c2 at *
  have MH := Lib.hid Mo
  have FH := Lib.hid Fo
  clear Mo Fo
  by_cases h : mv.toNat = 0
  · have b := byte_eq mv.toNat 0 (by omega)
    rw [decide_eq_true h, Bool.true_and]
    clear h
    rcases c1 with _ | _
    · go_enter Try.func6, Try.ntmps6
      go_wp2_with fail
      refine (MH.out _).mono ?_; rintro e w' ⟨rfl, rfl⟩
      go_wp2_with fail
      refine (FH.out _).mono ?_; rintro e w' ⟨rfl, rfl⟩
      go_wp2_with fail
      go_ret
      exact ⟨rfl, rfl⟩
    · go_enter Try.func6, Try.ntmps6
      go_wp2_with fail
      refine (MH.out _).mono ?_; rintro e w' ⟨rfl, rfl⟩
      go_wp2_with fail
      go_ret
      exact ⟨rfl, rfl⟩
  · have b := byte_ne mv.toNat 0 (by omega)
    rw [decide_eq_false h, Bool.false_and]
    clear h
    go_enter Try.func6, Try.ntmps6
    go_wp2_with fail
    go_ret
    exact ⟨rfl, rfl⟩
set_option maxRecDepth 100000 in
theorem isMotion_any (reg : UInt8) (n : Nat) (op mv : UInt8) (a : ByteArray) (W : World) : Calls Try.prog 7 #[.agg #[.int .u8 reg.toNat, .int .i64 n, .int .u8 op.toNat, .int .u8 mv.toNat, .string a]] W fun e w' => e = .returned (.bool (mo op mv)) ∧ w' = W.alloc (.cells #[.int .u8 reg.toNat, .int .i64 n, .int .u8 op.toNat, .int .u8 mv.toNat, .string a] 23) := by
  have Mo := docIsMotion_any op
  unfold mo
  generalize (mot op || far op) = c1 at *
  have MH := Lib.hid Mo
  clear Mo
  by_cases h : mv.toNat = 0
  · have b := byte_eq mv.toNat 0 (by omega)
    rw [decide_eq_true h, Bool.true_and]
    clear h
    go_enter Try.func7, Try.ntmps7
    go_wp2_with fail
    refine (MH.out _).mono ?_; rintro e w' ⟨rfl, rfl⟩
    go_wp2_with fail
    go_ret
    exact ⟨rfl, rfl⟩
  · have b := byte_ne mv.toNat 0 (by omega)
    rw [decide_eq_false h, Bool.false_and]
    clear h
    go_enter Try.func7, Try.ntmps7
    go_wp2_with fail
    go_ret
    exact ⟨rfl, rfl⟩
end Go.Proofs.Ytifnochpmlllgaa.Key
