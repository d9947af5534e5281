/-
  DERIVED. GIVEN WITH THE SEED: THE CARDS: each row of YtfckhkpheahgaaaDoorRows.lean that lists a variable, with what it lists TIED to the program's text (the seventh form; the later family's looks); each row that meets fmt, with fmt's text TOLD by the authors' own Lean function (tested against real Go, not proved from fmt's source: count such statements apart). THE CARD IS WHAT COUNTS. Prove the row's statement (the work); the ties are given (YtfckhkpheahgaaaDoorTie.lean); close each card by the builder's one call (the guide's Derived/Test/ToyasCard.lean, 'card_holds'). Laid BY PROGRAM, IN A SANDBOX (cutbox-door.mjs). By AI agents, Wed Nov 11 2026. No macro, syntax, notation, axiom, sorry.
-/
import Derived.Test.YtfckhkpheahgaaaDoorRows
import GoSem.ClaimSeven
namespace Go.Proofs.YtfckhkpheahgaaaDoor
namespace Rows

/-- THE TIED CARD OF 'escritoirelaw.PieceEdits'. -/
def pieceEditsCard : Claim7 := { stood := { row := pieceEditsRow, standIns := [], harness := (true, "d9617ee40d6ad12f96016984da6594d254081db5971d09a5293e4542c25fad1e"), looks := true }, kinds := [], alts := [], laidByText := true, laidKinds := [.handle], laidTests := true, laidLooks := .later }
def PieceEditsCardSaid : Prop := Claim7.holds Tryd.pinned (.plain (OpenSpec.ofChange pieceEditsSpec)) pieceEditsCard

/-- THE SECOND FORM's CARD OF 'escritoirelaw.PieceEdits'. -/
def pieceEditsUptoCard : Claim7 := { stood := { row := pieceEditsUptoRow, standIns := [], harness := (true, "d9617ee40d6ad12f96016984da6594d254081db5971d09a5293e4542c25fad1e"), looks := true }, kinds := [], alts := [], laidByText := true, laidKinds := [.handle], laidTests := true, laidLooks := .later }
def PieceEditsUptoCardSaid : Prop := Claim7.holds Tryd.pinned (.plain (OpenSpec.upto pieceEditsSpec)) pieceEditsUptoCard
end Rows
end Go.Proofs.YtfckhkpheahgaaaDoor
