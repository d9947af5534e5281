/-
  DERIVED. GIVEN WITH THE SEED: THE CARDS: each row of YtkopjmofdnlplaaGreatDoorRows.lean that lists a variable, with what it lists TIED to the program's text (the seventh form; the later family's looks); each row that meets fmt, with fmt's text TOLD by the authors' own Lean function (tested against real Go, not proved from fmt's source: count such statements apart). THE CARD IS WHAT COUNTS. Prove the row's statement (the work); the ties are given (YtkopjmofdnlplaaGreatDoorTie.lean); close each card by the builder's one call (the guide's Derived/Test/ToyasCard.lean, 'card_holds'). Laid BY PROGRAM, IN A SANDBOX (cutbox-door.mjs). By AI agents, Wed Nov 11 2026. No macro, syntax, notation, axiom, sorry.
-/
import Derived.Test.YtkopjmofdnlplaaGreatDoorRows
import GoSem.ClaimSeven
namespace Go.Proofs.YtkopjmofdnlplaaGreatDoor
namespace Rows

/-- THE TIED CARD OF 'escritoirelaw.LayoutReads'. -/
def layoutReadsCard : Claim7 := { stood := { row := layoutReadsRow, standIns := [], harness := (true, "25c9eb9a1209fbf59c3ed704d85e461a3f44e8e0d003e8b21286e421d8d14d21"), looks := true }, kinds := [], alts := [], laidByText := true, laidKinds := [.handle], laidTests := true, laidLooks := .later }
def LayoutReadsCardSaid : Prop := Claim7.holds Tryz.pinned (.plain (OpenSpec.ofChange layoutReadsSpec)) layoutReadsCard

/-- THE TIED CARD OF 'escritoirelaw.LayoutWrites'. -/
def layoutWritesCard : Claim7 := { stood := { row := layoutWritesRow, standIns := [], harness := (true, "25c9eb9a1209fbf59c3ed704d85e461a3f44e8e0d003e8b21286e421d8d14d21"), looks := true }, kinds := [], alts := [], laidByText := true, laidKinds := [.handle], laidTests := true, laidLooks := .later }
def LayoutWritesCardSaid : Prop := Claim7.holds Tryz.pinned (.plain (OpenSpec.ofChange layoutWritesSpec)) layoutWritesCard

/-- THE TIED CARD OF 'escritoirelaw.FixDoes'. -/
def fixDoesCard : Claim7 := { stood := { row := fixDoesRow, standIns := [], harness := (true, "25c9eb9a1209fbf59c3ed704d85e461a3f44e8e0d003e8b21286e421d8d14d21"), looks := true }, kinds := [], alts := [], laidByText := true, laidKinds := [.handle], laidTests := true, laidLooks := .later }
def FixDoesCardSaid : Prop := Claim7.holds Tryz.pinned (.plain (OpenSpec.ofChange fixDoesSpec)) fixDoesCard

/-- THE TIED CARD OF 'escritoirelaw.FixEdits'. -/
def fixEditsCard : Claim7 := { stood := { row := fixEditsRow, standIns := [], harness := (true, "25c9eb9a1209fbf59c3ed704d85e461a3f44e8e0d003e8b21286e421d8d14d21"), looks := true }, kinds := [], alts := [], laidByText := true, laidKinds := [.handle], laidTests := true, laidLooks := .later }
def FixEditsCardSaid : Prop := Claim7.holds Tryz.pinned (.plain (OpenSpec.ofChange fixEditsSpec)) fixEditsCard

/-- THE SECOND FORM's CARD OF 'escritoirelaw.LayoutReads'. -/
def layoutReadsUptoCard : Claim7 := { stood := { row := layoutReadsUptoRow, standIns := [], harness := (true, "25c9eb9a1209fbf59c3ed704d85e461a3f44e8e0d003e8b21286e421d8d14d21"), looks := true }, kinds := [], alts := [], laidByText := true, laidKinds := [.handle], laidTests := true, laidLooks := .later }
def LayoutReadsUptoCardSaid : Prop := Claim7.holds Tryz.pinned (.plain (OpenSpec.upto layoutReadsSpec)) layoutReadsUptoCard

/-- THE SECOND FORM's CARD OF 'escritoirelaw.LayoutWrites'. -/
def layoutWritesUptoCard : Claim7 := { stood := { row := layoutWritesUptoRow, standIns := [], harness := (true, "25c9eb9a1209fbf59c3ed704d85e461a3f44e8e0d003e8b21286e421d8d14d21"), looks := true }, kinds := [], alts := [], laidByText := true, laidKinds := [.handle], laidTests := true, laidLooks := .later }
def LayoutWritesUptoCardSaid : Prop := Claim7.holds Tryz.pinned (.plain (OpenSpec.upto layoutWritesSpec)) layoutWritesUptoCard

/-- THE SECOND FORM's CARD OF 'escritoirelaw.FixDoes'. -/
def fixDoesUptoCard : Claim7 := { stood := { row := fixDoesUptoRow, standIns := [], harness := (true, "25c9eb9a1209fbf59c3ed704d85e461a3f44e8e0d003e8b21286e421d8d14d21"), looks := true }, kinds := [], alts := [], laidByText := true, laidKinds := [.handle], laidTests := true, laidLooks := .later }
def FixDoesUptoCardSaid : Prop := Claim7.holds Tryz.pinned (.plain (OpenSpec.upto fixDoesSpec)) fixDoesUptoCard

/-- THE SECOND FORM's CARD OF 'escritoirelaw.FixEdits'. -/
def fixEditsUptoCard : Claim7 := { stood := { row := fixEditsUptoRow, standIns := [], harness := (true, "25c9eb9a1209fbf59c3ed704d85e461a3f44e8e0d003e8b21286e421d8d14d21"), looks := true }, kinds := [], alts := [], laidByText := true, laidKinds := [.handle], laidTests := true, laidLooks := .later }
def FixEditsUptoCardSaid : Prop := Claim7.holds Tryz.pinned (.plain (OpenSpec.upto fixEditsSpec)) fixEditsUptoCard
end Rows
end Go.Proofs.YtkopjmofdnlplaaGreatDoor
