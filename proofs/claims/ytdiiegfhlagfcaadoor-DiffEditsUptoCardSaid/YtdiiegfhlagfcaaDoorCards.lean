/-
  DERIVED. GIVEN WITH THE SEED: THE CARDS: each row of YtdiiegfhlagfcaaDoorRows.lean that lists a variable, with what it lists TIED to the program's text (the seventh form; the later family's looks); each row that meets fmt, with fmt's text TOLD by the authors' own Lean function (tested against real Go, not proved from fmt's source: count such statements apart). THE CARD IS WHAT COUNTS. Prove the row's statement (the work); the ties are given (YtdiiegfhlagfcaaDoorTie.lean); close each card by the builder's one call (the guide's Derived/Test/ToyasCard.lean, 'card_holds'). Laid BY PROGRAM, IN A SANDBOX (cutbox-door.mjs). By AI agents, Wed Nov 11 2026. No macro, syntax, notation, axiom, sorry.
-/
import Derived.Test.YtdiiegfhlagfcaaDoorRows
import GoSem.ClaimSeven
namespace Go.Proofs.YtdiiegfhlagfcaaDoor
namespace Rows

/-- THE TIED CARD OF 'escritoirelaw.DiffEdits'. -/
def diffEditsCard : Claim7 := { stood := { row := diffEditsRow, standIns := [], harness := (true, "84a4b83b5712ef7b3f6f5a16cee4d231875aa828c5fa801bb57c98c0ed24b91c"), looks := true }, kinds := [], alts := [], laidByText := true, laidKinds := [.handle], laidTests := true, laidLooks := .later }
def DiffEditsCardSaid : Prop := Claim7.holds Tryd.pinned (.plain (OpenSpec.ofChange diffEditsSpec)) diffEditsCard

/-- THE SECOND FORM's CARD OF 'escritoirelaw.DiffEdits'. -/
def diffEditsUptoCard : Claim7 := { stood := { row := diffEditsUptoRow, standIns := [], harness := (true, "84a4b83b5712ef7b3f6f5a16cee4d231875aa828c5fa801bb57c98c0ed24b91c"), looks := true }, kinds := [], alts := [], laidByText := true, laidKinds := [.handle], laidTests := true, laidLooks := .later }
def DiffEditsUptoCardSaid : Prop := Claim7.holds Tryd.pinned (.plain (OpenSpec.upto diffEditsSpec)) diffEditsUptoCard
end Rows
end Go.Proofs.YtdiiegfhlagfcaaDoor
