/-
  DERIVED. GIVEN WITH THE SEED: THE CARDS: each row of YtehmnohkfchljaaDoorRows.lean that lists a variable, with what it lists TIED to the program's text (the seventh form; the later family's looks); each row that meets fmt, with fmt's text TOLD by the authors' own Lean function (tested against real Go, not proved from fmt's source: count such statements apart). THE CARD IS WHAT COUNTS. Prove the row's statement (the work); the ties are given (YtehmnohkfchljaaDoorTie.lean); close each card by the builder's one call (the guide's Derived/Test/ToyasCard.lean, 'card_holds'). Laid BY PROGRAM, IN A SANDBOX (cutbox-door.mjs). By AI agents, Wed Nov 11 2026. No macro, syntax, notation, axiom, sorry.
-/
import Derived.Test.YtehmnohkfchljaaDoorRows
import GoSem.ClaimSeven
namespace Go.Proofs.YtehmnohkfchljaaDoor
namespace Rows

/-- THE TIED CARD OF 'escritoirelaw.ExReads'. -/
def exReadsCard : Claim7 := { stood := { row := exReadsRow, standIns := [], harness := (true, "2185a4b2440819bbc96993a8795ab1214dc6f8cf68589af9ba54beecd20001f8"), looks := true }, kinds := [], alts := [], laidByText := true, laidKinds := [.data, .handle, .pinned], laidTests := true, laidLooks := .later }
def ExReadsCardSaid : Prop := Claim7.holds Tryd.pinned (.plain (OpenSpec.ofChange exReadsSpec)) exReadsCard

/-- THE SECOND FORM's CARD OF 'escritoirelaw.ExReads'. -/
def exReadsUptoCard : Claim7 := { stood := { row := exReadsUptoRow, standIns := [], harness := (true, "2185a4b2440819bbc96993a8795ab1214dc6f8cf68589af9ba54beecd20001f8"), looks := true }, kinds := [], alts := [], laidByText := true, laidKinds := [.data, .handle, .pinned], laidTests := true, laidLooks := .later }
def ExReadsUptoCardSaid : Prop := Claim7.holds Tryd.pinned (.plain (OpenSpec.upto exReadsSpec)) exReadsUptoCard
end Rows
end Go.Proofs.YtehmnohkfchljaaDoor
