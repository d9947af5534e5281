/-
  DERIVED. GIVEN WITH THE SEED: THE CARDS: each row of YtofmheeiplagjaaGreatDoorRows.lean that lists a variable, with what it lists TIED to the program's text (the seventh form; the later family's looks); each row that meets fmt, with fmt's text TOLD by the authors' own Lean function (tested against real Go, not proved from fmt's source: count such statements apart). THE CARD IS WHAT COUNTS. Prove the row's statement (the work); the ties are given (YtofmheeiplagjaaGreatDoorTie.lean); close each card by the builder's one call (the guide's Derived/Test/ToyasCard.lean, 'card_holds'). Laid BY PROGRAM, IN A SANDBOX (cutbox-door.mjs). By AI agents, Wed Nov 11 2026. No macro, syntax, notation, axiom, sorry.
-/
import Derived.Test.YtofmheeiplagjaaGreatDoorRows
import GoSem.ClaimSeven
namespace Go.Proofs.YtofmheeiplagjaaGreatDoor
namespace Rows

/-- THE TIED CARD OF 'escritoirelaw.ExprReads'. -/
def exprReadsCard : Claim7 := { stood := { row := exprReadsRow, standIns := [], harness := (true, "3d9c1af60346ee67d2a96ee57ce1e867c566d996662d026924b17ff116af9f60"), looks := true }, kinds := [], alts := [], laidByText := true, laidKinds := [.handle, .data, .widerDeep], laidTests := true, laidLooks := .later }
def ExprReadsCardSaid : Prop := Claim7.holds Tryz.pinned (.plain (OpenSpec.ofChange exprReadsSpec)) exprReadsCard

/-- THE TIED CARD OF 'escritoirelaw.TmplReads'. -/
def tmplReadsCard : Claim7 := { stood := { row := tmplReadsRow, standIns := [], harness := (true, "3d9c1af60346ee67d2a96ee57ce1e867c566d996662d026924b17ff116af9f60"), looks := true }, kinds := [], alts := [], laidByText := true, laidKinds := [.handle, .data, .widerDeep], laidTests := true, laidLooks := .later }
def TmplReadsCardSaid : Prop := Claim7.holds Tryz.pinned (.plain (OpenSpec.ofChange tmplReadsSpec)) tmplReadsCard

/-- THE SECOND FORM's CARD OF 'escritoirelaw.ExprReads'. -/
def exprReadsUptoCard : Claim7 := { stood := { row := exprReadsUptoRow, standIns := [], harness := (true, "3d9c1af60346ee67d2a96ee57ce1e867c566d996662d026924b17ff116af9f60"), looks := true }, kinds := [], alts := [], laidByText := true, laidKinds := [.handle, .data, .widerDeep], laidTests := true, laidLooks := .later }
def ExprReadsUptoCardSaid : Prop := Claim7.holds Tryz.pinned (.plain (OpenSpec.upto exprReadsSpec)) exprReadsUptoCard

/-- THE SECOND FORM's CARD OF 'escritoirelaw.TmplReads'. -/
def tmplReadsUptoCard : Claim7 := { stood := { row := tmplReadsUptoRow, standIns := [], harness := (true, "3d9c1af60346ee67d2a96ee57ce1e867c566d996662d026924b17ff116af9f60"), looks := true }, kinds := [], alts := [], laidByText := true, laidKinds := [.handle, .data, .widerDeep], laidTests := true, laidLooks := .later }
def TmplReadsUptoCardSaid : Prop := Claim7.holds Tryz.pinned (.plain (OpenSpec.upto tmplReadsSpec)) tmplReadsUptoCard
end Rows
end Go.Proofs.YtofmheeiplagjaaGreatDoor
