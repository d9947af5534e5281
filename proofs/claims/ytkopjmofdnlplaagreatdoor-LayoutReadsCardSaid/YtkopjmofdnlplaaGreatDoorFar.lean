/-
  PROVED HERE: the contract of the laws' far. Conditions: as each theorem states.
-/
import Derived.Test.YtkopjmofdnlplaaGreatDoorOwn
import Derived.Test.YtkopjmofdnlplaaGreatDoorRows
import Derived.Test.YtkopjmofdnlplaaGreatDoorTac
namespace Go.Proofs.YtkopjmofdnlplaaGreatDoor.Tm
open Go.RowKit
theorem far_yes (s : ByteArray) (h : (900 < s.size ∧ s.size ≤ 3000) ∨ 3009 < s.size) (W : World) : Calls Tryz.prog 29 #[.string s] W fun e w' => e = .returned (.bool true) ∧ W = w' := by
  rcases h with ⟨h1, h2⟩ | h1
  · go_enter Tryz.func29, Tryz.ntmps29
    go_wp2_with fail
    go_ret
    exact ⟨ret_bool (by first | rfl | (simp; omega)), rfl⟩
  · have h3 : 900 < s.size := by omega
    have h4 : 3000 < s.size := by omega
    go_enter Tryz.func29, Tryz.ntmps29
    go_wp2_with fail
    go_ret
    exact ⟨ret_bool (by first | rfl | (simp; omega)), rfl⟩
theorem far_no (s : ByteArray) (h : s.size ≤ 900 ∨ (3000 < s.size ∧ s.size ≤ 3009)) (W : World) : Calls Tryz.prog 29 #[.string s] W fun e w' => e = .returned (.bool false) ∧ W = w' := by
  rcases h with h1 | ⟨h1, h2⟩
  · have h3 : s.size ≤ 3009 := by omega
    go_enter Tryz.func29, Tryz.ntmps29
    go_wp2_with fail
    go_ret
    exact ⟨ret_bool (by first | rfl | (simp; omega)), rfl⟩
  · have h3 : 900 < s.size := by omega
    go_enter Tryz.func29, Tryz.ntmps29
    go_wp2_with fail
    go_ret
    exact ⟨ret_bool (by first | rfl | (simp; omega)), rfl⟩
end Go.Proofs.YtkopjmofdnlplaaGreatDoor.Tm
