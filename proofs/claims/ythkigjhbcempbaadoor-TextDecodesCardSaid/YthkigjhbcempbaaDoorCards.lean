/-
  DERIVED. GIVEN WITH THE SEED: THE CARDS: each row of YthkigjhbcempbaaDoorRows.lean that lists a variable, with what it lists TIED to the program's text (the seventh form; the later family's looks); each row that meets fmt, with fmt's text TOLD by the authors' own Lean function (tested against real Go, not proved from fmt's source: count such statements apart). THE CARD IS WHAT COUNTS. Prove the row's statement (the work); the ties are given (YthkigjhbcempbaaDoorTie.lean); close each card by the builder's one call (the guide's Derived/Test/ToyasCard.lean, 'card_holds'). Laid BY PROGRAM, IN A SANDBOX (cutbox-door.mjs). By AI agents, Wed Nov 11 2026. No macro, syntax, notation, axiom, sorry.
-/
import Derived.Test.YthkigjhbcempbaaDoorRows
import GoSem.ClaimSeven
namespace Go.Proofs.YthkigjhbcempbaaDoor
namespace Rows

/-- THE TIED CARD OF 'escritoirelaw.RegsKeep'. -/
def regsKeepCard : Claim7 := { stood := { row := regsKeepRow, standIns := [], harness := (true, "d98cce541f7922c39811aa707822c1d638699b6f60bae33b62354498ccfbd394"), looks := true }, kinds := [], alts := [], laidByText := true, laidKinds := [.handle], laidTests := true, laidLooks := .later }
def RegsKeepCardSaid : Prop := Claim7.holds Tryd.pinned (.plain (OpenSpec.ofChange regsKeepSpec)) regsKeepCard

/-- THE TIED CARD OF 'escritoirelaw.TextDecodes'. -/
def textDecodesCard : Claim7 := { stood := { row := textDecodesRow, standIns := [], harness := (true, "d98cce541f7922c39811aa707822c1d638699b6f60bae33b62354498ccfbd394"), looks := true }, kinds := [], alts := [], laidByText := true, laidKinds := [.data, .pinned], laidTests := true, laidLooks := .later }
def TextDecodesCardSaid : Prop := Claim7.holds Tryd.pinned (.plain (OpenSpec.ofChange textDecodesSpec)) textDecodesCard

/-- THE TIED CARD OF 'escritoirelaw.XxdDumps'. -/
def xxdDumpsCard : Claim7 := { stood := { row := xxdDumpsRow, standIns := [], harness := (true, "d98cce541f7922c39811aa707822c1d638699b6f60bae33b62354498ccfbd394"), looks := true }, kinds := [], alts := [], laidByText := true, laidKinds := [.handle], laidTests := true, laidLooks := .later }
def XxdDumpsCardSaid : Prop := Claim7.holds Tryd.pinned (.plain (OpenSpec.ofChange xxdDumpsSpec)) xxdDumpsCard

/-- THE SECOND FORM's CARD OF 'escritoirelaw.RegsKeep'. -/
def regsKeepUptoCard : Claim7 := { stood := { row := regsKeepUptoRow, standIns := [], harness := (true, "d98cce541f7922c39811aa707822c1d638699b6f60bae33b62354498ccfbd394"), looks := true }, kinds := [], alts := [], laidByText := true, laidKinds := [.handle], laidTests := true, laidLooks := .later }
def RegsKeepUptoCardSaid : Prop := Claim7.holds Tryd.pinned (.plain (OpenSpec.upto regsKeepSpec)) regsKeepUptoCard

/-- THE SECOND FORM's CARD OF 'escritoirelaw.TextDecodes'. -/
def textDecodesUptoCard : Claim7 := { stood := { row := textDecodesUptoRow, standIns := [], harness := (true, "d98cce541f7922c39811aa707822c1d638699b6f60bae33b62354498ccfbd394"), looks := true }, kinds := [], alts := [], laidByText := true, laidKinds := [.data, .pinned], laidTests := true, laidLooks := .later }
def TextDecodesUptoCardSaid : Prop := Claim7.holds Tryd.pinned (.plain (OpenSpec.upto textDecodesSpec)) textDecodesUptoCard

/-- THE SECOND FORM's CARD OF 'escritoirelaw.XxdDumps'. -/
def xxdDumpsUptoCard : Claim7 := { stood := { row := xxdDumpsUptoRow, standIns := [], harness := (true, "d98cce541f7922c39811aa707822c1d638699b6f60bae33b62354498ccfbd394"), looks := true }, kinds := [], alts := [], laidByText := true, laidKinds := [.handle], laidTests := true, laidLooks := .later }
def XxdDumpsUptoCardSaid : Prop := Claim7.holds Tryd.pinned (.plain (OpenSpec.upto xxdDumpsSpec)) xxdDumpsUptoCard
end Rows
end Go.Proofs.YthkigjhbcempbaaDoor
