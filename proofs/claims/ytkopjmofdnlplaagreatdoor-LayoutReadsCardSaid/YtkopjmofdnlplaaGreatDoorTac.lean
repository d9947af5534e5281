/-
  PROVED HERE: nothing; the walk's tactics in one place.
-/
import Derived.Test.YtkopjmofdnlplaaGreatDoorOwn
import Derived.Deep.DeepCutAuto
import Derived.Deep.RegionWith
import Derived.Deep.RegionHeld3
import Derived.Deep.RegionLaw
import Derived.Deep.DeepFit
import Derived.BigQuiet
import Derived.Deep.QuietTactic
import Derived.Outline
namespace Go.Proofs.YtkopjmofdnlplaaGreatDoor
theorem tac_one : True := trivial
end Go.Proofs.YtkopjmofdnlplaaGreatDoor
