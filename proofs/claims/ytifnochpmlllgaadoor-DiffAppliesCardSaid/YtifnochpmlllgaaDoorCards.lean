/-
  DERIVED. GIVEN WITH THE SEED: THE CARDS: each row of YtifnochpmlllgaaDoorRows.lean that lists a variable, with what it lists TIED to the program's text (the seventh form; the later family's looks); each row that meets fmt, with fmt's text TOLD by the authors' own Lean function (tested against real Go, not proved from fmt's source: count such statements apart). THE CARD IS WHAT COUNTS. Prove the row's statement (the work); the ties are given (YtifnochpmlllgaaDoorTie.lean); close each card by the builder's one call (the guide's Derived/Test/ToyasCard.lean, 'card_holds'). Laid BY PROGRAM, IN A SANDBOX (cutbox-door.mjs). By AI agents, Wed Nov 11 2026. No macro, syntax, notation, axiom, sorry.
-/
import Derived.Test.YtifnochpmlllgaaDoorRows
import GoSem.ClaimSeven
namespace Go.Proofs.YtifnochpmlllgaaDoor
namespace Rows

/-- THE TIED CARD OF 'escritoirelaw.DigitsPrints'. -/
def digitsPrintsCard : Claim7 := { stood := { row := digitsPrintsRow, standIns := [], harness := (true, "4540541055802bab143cfbf5530fd3d248dd12df4ff9bd95ee497c9e739cbb4d"), looks := true }, kinds := [], alts := [], laidByText := true, laidKinds := [.handle], laidTests := true, laidLooks := .later }
def DigitsPrintsCardSaid : Prop := Claim7.holds Tryd.pinned (.plain (OpenSpec.ofChange digitsPrintsSpec)) digitsPrintsCard

/-- THE TIED CARD OF 'escritoirelaw.DigitsHex'. -/
def digitsHexCard : Claim7 := { stood := { row := digitsHexRow, standIns := [], harness := (true, "4540541055802bab143cfbf5530fd3d248dd12df4ff9bd95ee497c9e739cbb4d"), looks := true }, kinds := [], alts := [], laidByText := true, laidKinds := [.handle], laidTests := true, laidLooks := .later }
def DigitsHexCardSaid : Prop := Claim7.holds Tryd.pinned (.plain (OpenSpec.ofChange digitsHexSpec)) digitsHexCard

/-- THE TIED CARD OF 'escritoirelaw.DigitsParses'. -/
def digitsParsesCard : Claim7 := { stood := { row := digitsParsesRow, standIns := [], harness := (true, "4540541055802bab143cfbf5530fd3d248dd12df4ff9bd95ee497c9e739cbb4d"), looks := true }, kinds := [], alts := [], laidByText := true, laidKinds := [.handle], laidTests := true, laidLooks := .later }
def DigitsParsesCardSaid : Prop := Claim7.holds Tryd.pinned (.plain (OpenSpec.ofChange digitsParsesSpec)) digitsParsesCard

/-- THE TIED CARD OF 'escritoirelaw.TextNarrows'. -/
def textNarrowsCard : Claim7 := { stood := { row := textNarrowsRow, standIns := [], harness := (true, "4540541055802bab143cfbf5530fd3d248dd12df4ff9bd95ee497c9e739cbb4d"), looks := true }, kinds := [], alts := [], laidByText := true, laidKinds := [.handle], laidTests := true, laidLooks := .later }
def TextNarrowsCardSaid : Prop := Claim7.holds Tryd.pinned (.plain (OpenSpec.ofChange textNarrowsSpec)) textNarrowsCard

/-- THE TIED CARD OF 'escritoirelaw.TextEncodes'. -/
def textEncodesCard : Claim7 := { stood := { row := textEncodesRow, standIns := [], harness := (true, "4540541055802bab143cfbf5530fd3d248dd12df4ff9bd95ee497c9e739cbb4d"), looks := true }, kinds := [], alts := [], laidByText := true, laidKinds := [.handle], laidTests := true, laidLooks := .later }
def TextEncodesCardSaid : Prop := Claim7.holds Tryd.pinned (.plain (OpenSpec.ofChange textEncodesSpec)) textEncodesCard

/-- THE TIED CARD OF 'escritoirelaw.RealSteps'. -/
def realStepsCard : Claim7 := { stood := { row := realStepsRow, standIns := [], harness := (true, "4540541055802bab143cfbf5530fd3d248dd12df4ff9bd95ee497c9e739cbb4d"), looks := true }, kinds := [], alts := [], laidByText := true, laidKinds := [.handle], laidTests := true, laidLooks := .later }
def RealStepsCardSaid : Prop := Claim7.holds Tryd.pinned (.plain (OpenSpec.ofChange realStepsSpec)) realStepsCard

/-- THE TIED CARD OF 'escritoirelaw.SumsOf'. -/
def sumsOfCard : Claim7 := { stood := { row := sumsOfRow, standIns := [], harness := (true, "4540541055802bab143cfbf5530fd3d248dd12df4ff9bd95ee497c9e739cbb4d"), looks := true }, kinds := [], alts := [], laidByText := true, laidKinds := [.handle], laidTests := true, laidLooks := .later }
def SumsOfCardSaid : Prop := Claim7.holds Tryd.pinned (.plain (OpenSpec.ofChange sumsOfSpec)) sumsOfCard

/-- THE TIED CARD OF 'escritoirelaw.SumsForce'. -/
def sumsForceCard : Claim7 := { stood := { row := sumsForceRow, standIns := [], harness := (true, "4540541055802bab143cfbf5530fd3d248dd12df4ff9bd95ee497c9e739cbb4d"), looks := true }, kinds := [], alts := [], laidByText := true, laidKinds := [.handle], laidTests := true, laidLooks := .later }
def SumsForceCardSaid : Prop := Claim7.holds Tryd.pinned (.plain (OpenSpec.ofChange sumsForceSpec)) sumsForceCard

/-- THE TIED CARD OF 'escritoirelaw.FindLike'. -/
def findLikeCard : Claim7 := { stood := { row := findLikeRow, standIns := [], harness := (true, "4540541055802bab143cfbf5530fd3d248dd12df4ff9bd95ee497c9e739cbb4d"), looks := true }, kinds := [], alts := [], laidByText := true, laidKinds := [.handle], laidTests := true, laidLooks := .later }
def FindLikeCardSaid : Prop := Claim7.holds Tryd.pinned (.plain (OpenSpec.ofChange findLikeSpec)) findLikeCard

/-- THE TIED CARD OF 'escritoirelaw.FindAll'. -/
def findAllCard : Claim7 := { stood := { row := findAllRow, standIns := [], harness := (true, "4540541055802bab143cfbf5530fd3d248dd12df4ff9bd95ee497c9e739cbb4d"), looks := true }, kinds := [], alts := [], laidByText := true, laidKinds := [.handle], laidTests := true, laidLooks := .later }
def FindAllCardSaid : Prop := Claim7.holds Tryd.pinned (.plain (OpenSpec.ofChange findAllSpec)) findAllCard

/-- THE TIED CARD OF 'escritoirelaw.DiffApplies'. -/
def diffAppliesCard : Claim7 := { stood := { row := diffAppliesRow, standIns := [], harness := (true, "4540541055802bab143cfbf5530fd3d248dd12df4ff9bd95ee497c9e739cbb4d"), looks := true }, kinds := [], alts := [], laidByText := true, laidKinds := [.handle], laidTests := true, laidLooks := .later }
def DiffAppliesCardSaid : Prop := Claim7.holds Tryd.pinned (.plain (OpenSpec.ofChange diffAppliesSpec)) diffAppliesCard

/-- THE SECOND FORM's CARD OF 'escritoirelaw.DigitsPrints'. -/
def digitsPrintsUptoCard : Claim7 := { stood := { row := digitsPrintsUptoRow, standIns := [], harness := (true, "4540541055802bab143cfbf5530fd3d248dd12df4ff9bd95ee497c9e739cbb4d"), looks := true }, kinds := [], alts := [], laidByText := true, laidKinds := [.handle], laidTests := true, laidLooks := .later }
def DigitsPrintsUptoCardSaid : Prop := Claim7.holds Tryd.pinned (.plain (OpenSpec.upto digitsPrintsSpec)) digitsPrintsUptoCard

/-- THE SECOND FORM's CARD OF 'escritoirelaw.DigitsHex'. -/
def digitsHexUptoCard : Claim7 := { stood := { row := digitsHexUptoRow, standIns := [], harness := (true, "4540541055802bab143cfbf5530fd3d248dd12df4ff9bd95ee497c9e739cbb4d"), looks := true }, kinds := [], alts := [], laidByText := true, laidKinds := [.handle], laidTests := true, laidLooks := .later }
def DigitsHexUptoCardSaid : Prop := Claim7.holds Tryd.pinned (.plain (OpenSpec.upto digitsHexSpec)) digitsHexUptoCard

/-- THE SECOND FORM's CARD OF 'escritoirelaw.DigitsParses'. -/
def digitsParsesUptoCard : Claim7 := { stood := { row := digitsParsesUptoRow, standIns := [], harness := (true, "4540541055802bab143cfbf5530fd3d248dd12df4ff9bd95ee497c9e739cbb4d"), looks := true }, kinds := [], alts := [], laidByText := true, laidKinds := [.handle], laidTests := true, laidLooks := .later }
def DigitsParsesUptoCardSaid : Prop := Claim7.holds Tryd.pinned (.plain (OpenSpec.upto digitsParsesSpec)) digitsParsesUptoCard

/-- THE SECOND FORM's CARD OF 'escritoirelaw.TextNarrows'. -/
def textNarrowsUptoCard : Claim7 := { stood := { row := textNarrowsUptoRow, standIns := [], harness := (true, "4540541055802bab143cfbf5530fd3d248dd12df4ff9bd95ee497c9e739cbb4d"), looks := true }, kinds := [], alts := [], laidByText := true, laidKinds := [.handle], laidTests := true, laidLooks := .later }
def TextNarrowsUptoCardSaid : Prop := Claim7.holds Tryd.pinned (.plain (OpenSpec.upto textNarrowsSpec)) textNarrowsUptoCard

/-- THE SECOND FORM's CARD OF 'escritoirelaw.TextEncodes'. -/
def textEncodesUptoCard : Claim7 := { stood := { row := textEncodesUptoRow, standIns := [], harness := (true, "4540541055802bab143cfbf5530fd3d248dd12df4ff9bd95ee497c9e739cbb4d"), looks := true }, kinds := [], alts := [], laidByText := true, laidKinds := [.handle], laidTests := true, laidLooks := .later }
def TextEncodesUptoCardSaid : Prop := Claim7.holds Tryd.pinned (.plain (OpenSpec.upto textEncodesSpec)) textEncodesUptoCard

/-- THE SECOND FORM's CARD OF 'escritoirelaw.RealSteps'. -/
def realStepsUptoCard : Claim7 := { stood := { row := realStepsUptoRow, standIns := [], harness := (true, "4540541055802bab143cfbf5530fd3d248dd12df4ff9bd95ee497c9e739cbb4d"), looks := true }, kinds := [], alts := [], laidByText := true, laidKinds := [.handle], laidTests := true, laidLooks := .later }
def RealStepsUptoCardSaid : Prop := Claim7.holds Tryd.pinned (.plain (OpenSpec.upto realStepsSpec)) realStepsUptoCard

/-- THE SECOND FORM's CARD OF 'escritoirelaw.SumsOf'. -/
def sumsOfUptoCard : Claim7 := { stood := { row := sumsOfUptoRow, standIns := [], harness := (true, "4540541055802bab143cfbf5530fd3d248dd12df4ff9bd95ee497c9e739cbb4d"), looks := true }, kinds := [], alts := [], laidByText := true, laidKinds := [.handle], laidTests := true, laidLooks := .later }
def SumsOfUptoCardSaid : Prop := Claim7.holds Tryd.pinned (.plain (OpenSpec.upto sumsOfSpec)) sumsOfUptoCard

/-- THE SECOND FORM's CARD OF 'escritoirelaw.SumsForce'. -/
def sumsForceUptoCard : Claim7 := { stood := { row := sumsForceUptoRow, standIns := [], harness := (true, "4540541055802bab143cfbf5530fd3d248dd12df4ff9bd95ee497c9e739cbb4d"), looks := true }, kinds := [], alts := [], laidByText := true, laidKinds := [.handle], laidTests := true, laidLooks := .later }
def SumsForceUptoCardSaid : Prop := Claim7.holds Tryd.pinned (.plain (OpenSpec.upto sumsForceSpec)) sumsForceUptoCard

/-- THE SECOND FORM's CARD OF 'escritoirelaw.FindLike'. -/
def findLikeUptoCard : Claim7 := { stood := { row := findLikeUptoRow, standIns := [], harness := (true, "4540541055802bab143cfbf5530fd3d248dd12df4ff9bd95ee497c9e739cbb4d"), looks := true }, kinds := [], alts := [], laidByText := true, laidKinds := [.handle], laidTests := true, laidLooks := .later }
def FindLikeUptoCardSaid : Prop := Claim7.holds Tryd.pinned (.plain (OpenSpec.upto findLikeSpec)) findLikeUptoCard

/-- THE SECOND FORM's CARD OF 'escritoirelaw.FindAll'. -/
def findAllUptoCard : Claim7 := { stood := { row := findAllUptoRow, standIns := [], harness := (true, "4540541055802bab143cfbf5530fd3d248dd12df4ff9bd95ee497c9e739cbb4d"), looks := true }, kinds := [], alts := [], laidByText := true, laidKinds := [.handle], laidTests := true, laidLooks := .later }
def FindAllUptoCardSaid : Prop := Claim7.holds Tryd.pinned (.plain (OpenSpec.upto findAllSpec)) findAllUptoCard

/-- THE SECOND FORM's CARD OF 'escritoirelaw.DiffApplies'. -/
def diffAppliesUptoCard : Claim7 := { stood := { row := diffAppliesUptoRow, standIns := [], harness := (true, "4540541055802bab143cfbf5530fd3d248dd12df4ff9bd95ee497c9e739cbb4d"), looks := true }, kinds := [], alts := [], laidByText := true, laidKinds := [.handle], laidTests := true, laidLooks := .later }
def DiffAppliesUptoCardSaid : Prop := Claim7.holds Tryd.pinned (.plain (OpenSpec.upto diffAppliesSpec)) diffAppliesUptoCard
end Rows
end Go.Proofs.YtifnochpmlllgaaDoor
