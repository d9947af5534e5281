/-
  DERIVED. GIVEN WITH THE SEED: THE CARDS: each row of YtgkmjkjcdjkffaaDoorRows.lean that lists a variable, with what it lists TIED to the program's text (the seventh form; the later family's looks); each row that meets fmt, with fmt's text TOLD by the authors' own Lean function (tested against real Go, not proved from fmt's source: count such statements apart). THE CARD IS WHAT COUNTS. Prove the row's statement (the work); the ties are given (YtgkmjkjcdjkffaaDoorTie.lean); close each card by the builder's one call (the guide's Derived/Test/ToyasCard.lean, 'card_holds'). Laid BY PROGRAM, IN A SANDBOX (cutbox-door.mjs). By AI agents, Wed Nov 11 2026. No macro, syntax, notation, axiom, sorry.
-/
import Derived.Test.YtgkmjkjcdjkffaaDoorRows
import GoSem.ClaimSeven
namespace Go.Proofs.YtgkmjkjcdjkffaaDoor
namespace Rows

/-- THE TIED CARD OF 'escritoirelaw.MotionGoes'. -/
def motionGoesCard : Claim7 := { stood := { row := motionGoesRow, standIns := [], harness := (true, "32446902060751d12c3916406f2e9b0afdf8c61ab68c550079739c34a31b7e16"), looks := true }, kinds := [], alts := [], laidByText := true, laidKinds := [.handle], laidTests := true, laidLooks := .later }
def MotionGoesCardSaid : Prop := Claim7.holds Tryd.pinned (.plain (OpenSpec.ofChange motionGoesSpec)) motionGoesCard

/-- THE SECOND FORM's CARD OF 'escritoirelaw.MotionGoes'. -/
def motionGoesUptoCard : Claim7 := { stood := { row := motionGoesUptoRow, standIns := [], harness := (true, "32446902060751d12c3916406f2e9b0afdf8c61ab68c550079739c34a31b7e16"), looks := true }, kinds := [], alts := [], laidByText := true, laidKinds := [.handle], laidTests := true, laidLooks := .later }
def MotionGoesUptoCardSaid : Prop := Claim7.holds Tryd.pinned (.plain (OpenSpec.upto motionGoesSpec)) motionGoesUptoCard
end Rows
end Go.Proofs.YtgkmjkjcdjkffaaDoor
