/-
  PROVED HERE: the contract of the document's Add. Conditions: as each theorem states.
-/
import Derived.Test.YtijcehimdhbceaaDoorUnM
import Derived.Deep.RegionLaw
namespace Go.Proofs.YtijcehimdhbceaaDoor.Un
open Go.RowKit
set_option maxRecDepth 100000 in
set_option maxHeartbeats 1000000 in
theorem docAdd_no (w : World) (g b cap d cap' : Nat) (up tm : List Int) (now t : Nat) (hD : DT w g b cap d cap' up tm now t) (hl : 200 ≤ up.length) :
    Calls Tryd.prog 16 #[.pointer (some ⟨g, 0, none⟩)] w (DocP g d w b cap cap' 12 up tm now t) := by
  have c0 := hD.c0
  have i1 : (200 : Int) ≤ (up.length : Int) := by omega
  have DH := Lib.hid hD
  clear hD
  go_enter Tryd.func16, Tryd.ntmps16
  go_wp2_with fail
  go_ret
  exact ⟨rfl, DH.out, Keeps.refl _ _⟩
end Go.Proofs.YtijcehimdhbceaaDoor.Un
