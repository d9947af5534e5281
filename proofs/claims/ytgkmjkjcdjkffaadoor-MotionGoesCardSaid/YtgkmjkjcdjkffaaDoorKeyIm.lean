/-
  PROVED HERE: the contract of the document's IsMotion. Conditions: as each theorem states.
-/
import Derived.Test.YtgkmjkjcdjkffaaDoorKeyFa
namespace Go.Proofs.YtgkmjkjcdjkffaaDoor.Key
open Go.RowKit
def mo (op mv : UInt8) : Bool := decide (mv.toNat = 0) && (mot op || far op)
set_option maxRecDepth 100000 in
theorem isMotion_any (reg : UInt8) (n : Nat) (op mv : UInt8) (a : ByteArray) (W : World) : Calls Tryd.prog 5 #[.agg #[.int .u8 reg.toNat, .int .i64 n, .int .u8 op.toNat, .int .u8 mv.toNat, .string a]] W fun e w' => e = .returned (.bool (mo op mv)) ∧ w' = W.alloc (.cells #[.int .u8 reg.toNat, .int .i64 n, .int .u8 op.toNat, .int .u8 mv.toNat, .string a] 26) := by
  have Mo := docIsMotion_any op
  unfold mo
  generalize (mot op || far op) = c1 at *
  have MH := Lib.hid Mo
  clear Mo
  by_cases h : mv.toNat = 0
  · have b := byte_eq mv.toNat 0 (by omega)
    rw [decide_eq_true h, Bool.true_and]
    clear h
    go_enter Tryd.func5, Tryd.ntmps5
    go_wp2_with fail
    refine (MH.out _).mono ?_; rintro e w' ⟨rfl, rfl⟩
    go_wp2_with fail
    go_ret
    exact ⟨rfl, rfl⟩
  · have b := byte_ne mv.toNat 0 (by omega)
    rw [decide_eq_false h, Bool.false_and]
    clear h
    go_enter Tryd.func5, Tryd.ntmps5
    go_wp2_with fail
    go_ret
    exact ⟨rfl, rfl⟩
end Go.Proofs.YtgkmjkjcdjkffaaDoor.Key
