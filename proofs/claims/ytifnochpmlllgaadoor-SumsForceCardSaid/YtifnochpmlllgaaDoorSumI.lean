/-
  PROVED HERE: the law SumsOf's walk, from a contract of the document's SumOf at sums that can be made (a premise here: not the law). Conditions: as each theorem states.
-/
import Derived.Test.YtifnochpmlllgaaDoorSumH
namespace Go.Proofs.YtifnochpmlllgaaDoor.Sum
open Go.RowKit
/-- What is still to be shown of the document's SumOf. -/
def DocOf : Prop := ∀ (w P : Nat) (t : Bool) (I O : Nat) (s : ByteArray), (w = 8 ∨ w = 16 ∨ w = 32) → s.size ≤ 200 → P % 2 = 1 → P < 2 ^ w → I < 2 ^ w → O < 2 ^ w → ∀ W : World,
    Calls Tryd.prog 42 #[Sm w P t I O, .string s] W (DSP (ou w t (cr w P t I s s.size) O) 0 W)
set_option maxRecDepth 100000 in
set_option maxHeartbeats 1000000 in
theorem docCrc_of (D : DocOf) (s : ByteArray) (hs : s.size ≤ 200) (W : World) :
    Calls Tryd.prog 47 #[.string s] W fun e w' => e = .returned (.int .u32 (crcOf s : Nat)) ∧ Below W.heap.size W w' := by
  have C := Lib.hid (D 32 79764919 true 4294967295 4294967295 s (by decide) hs (by decide) (by decide) (by decide) (by decide))
  unfold Sm at C
  have E : Hid (ou 32 true (cr 32 79764919 true 4294967295 s s.size) 4294967295 = crcOf s) := Lib.hid rfl
  rw [E.out] at C
  clear D
  generalize crcOf s = R at *
  go_enter Tryd.func47, Tryd.ntmps47
  go_wp2_with fail
  refine (C.out _).mono ?_; rintro e w1 ⟨rfl, h1⟩
  have H1 := Lib.hid h1
  clear h1
  go_wp2_with fail
  go_ret
  exact ⟨rfl, H1.out⟩
end Go.Proofs.YtifnochpmlllgaaDoor.Sum
