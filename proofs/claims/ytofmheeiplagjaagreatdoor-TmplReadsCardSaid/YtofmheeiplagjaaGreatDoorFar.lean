/-
  PROVED HERE: the contract of the laws' far. Conditions: as each theorem states.
-/
import Derived.Test.YtofmheeiplagjaaGreatDoorOwn
import Derived.Test.YtofmheeiplagjaaGreatDoorRows
import Derived.Test.YtofmheeiplagjaaGreatDoorTac
namespace Go.Proofs.YtofmheeiplagjaaGreatDoor.Tm
open Go.RowKit
theorem far_yes (s : ByteArray) (h : (900 < s.size ∧ s.size ≤ 3000) ∨ 3009 < s.size) (W : World) : Calls Tryz.prog 5 #[.string s] W fun e w' => e = .returned (.bool true) ∧ W = w' := by
  rcases h with ⟨h1, h2⟩ | h1
  · go_enter Tryz.func5, Tryz.ntmps5
    go_wp2_with fail
    go_ret
    exact ⟨ret_bool (by first | rfl | (simp; omega)), rfl⟩
  · have h3 : 900 < s.size := by omega
    have h4 : 3000 < s.size := by omega
    go_enter Tryz.func5, Tryz.ntmps5
    go_wp2_with fail
    go_ret
    exact ⟨ret_bool (by first | rfl | (simp; omega)), rfl⟩
theorem far_no (s : ByteArray) (h : s.size ≤ 900 ∨ (3000 < s.size ∧ s.size ≤ 3009)) (W : World) : Calls Tryz.prog 5 #[.string s] W fun e w' => e = .returned (.bool false) ∧ W = w' := by
  rcases h with h1 | ⟨h1, h2⟩
  · have h3 : s.size ≤ 3009 := by omega
    go_enter Tryz.func5, Tryz.ntmps5
    go_wp2_with fail
    go_ret
    exact ⟨ret_bool (by first | rfl | (simp; omega)), rfl⟩
  · have h3 : 900 < s.size := by omega
    go_enter Tryz.func5, Tryz.ntmps5
    go_wp2_with fail
    go_ret
    exact ⟨ret_bool (by first | rfl | (simp; omega)), rfl⟩
end Go.Proofs.YtofmheeiplagjaaGreatDoor.Tm
