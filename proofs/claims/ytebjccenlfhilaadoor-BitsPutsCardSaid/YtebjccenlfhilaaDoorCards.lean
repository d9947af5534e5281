/-
  DERIVED. GIVEN WITH THE SEED: THE CARDS: each row of YtebjccenlfhilaaDoorRows.lean that lists a variable, with what it lists TIED to the program's text (the seventh form; the later family's looks); each row that meets fmt, with fmt's text TOLD by the authors' own Lean function (tested against real Go, not proved from fmt's source: count such statements apart). THE CARD IS WHAT COUNTS. Prove the row's statement (the work); the ties are given (YtebjccenlfhilaaDoorTie.lean); close each card by the builder's one call (the guide's Derived/Test/ToyasCard.lean, 'card_holds'). Laid BY PROGRAM, IN A SANDBOX (cutbox-door.mjs). By AI agents, Wed Nov 11 2026. No macro, syntax, notation, axiom, sorry.
-/
import Derived.Test.YtebjccenlfhilaaDoorRows
import GoSem.ClaimSeven
namespace Go.Proofs.YtebjccenlfhilaaDoor
namespace Rows

/-- THE TIED CARD OF 'escritoirelaw.TextDecodes'. -/
def textDecodesCard : Claim7 := { stood := { row := textDecodesRow, standIns := [], harness := (true, "3b0d49a305b6ff5d1a1a1feb09324edcc88c1a7c5ca6bbdad416f560252e3f13"), looks := true }, kinds := [], alts := [], laidByText := true, laidKinds := [.data, .pinned], laidTests := true, laidLooks := .later }
def TextDecodesCardSaid : Prop := Claim7.holds Tryd.pinned (.plain (OpenSpec.ofChange textDecodesSpec)) textDecodesCard

/-- THE TIED CARD OF 'escritoirelaw.WordGets'. -/
def wordGetsCard : Claim7 := { stood := { row := wordGetsRow, standIns := [], harness := (true, "3b0d49a305b6ff5d1a1a1feb09324edcc88c1a7c5ca6bbdad416f560252e3f13"), looks := true }, kinds := [], alts := [], laidByText := true, laidKinds := [.handle], laidTests := true, laidLooks := .later }
def WordGetsCardSaid : Prop := Claim7.holds Tryd.pinned (.plain (OpenSpec.ofChange wordGetsSpec)) wordGetsCard

/-- THE TIED CARD OF 'escritoirelaw.RealJoins'. -/
def realJoinsCard : Claim7 := { stood := { row := realJoinsRow, standIns := [], harness := (true, "3b0d49a305b6ff5d1a1a1feb09324edcc88c1a7c5ca6bbdad416f560252e3f13"), looks := true }, kinds := [], alts := [], laidByText := true, laidKinds := [.handle], laidTests := true, laidLooks := .later }
def RealJoinsCardSaid : Prop := Claim7.holds Tryd.pinned (.plain (OpenSpec.ofChange realJoinsSpec)) realJoinsCard

/-- THE TIED CARD OF 'escritoirelaw.BitsGets'. -/
def bitsGetsCard : Claim7 := { stood := { row := bitsGetsRow, standIns := [], harness := (true, "3b0d49a305b6ff5d1a1a1feb09324edcc88c1a7c5ca6bbdad416f560252e3f13"), looks := true }, kinds := [], alts := [], laidByText := true, laidKinds := [.handle], laidTests := true, laidLooks := .later }
def BitsGetsCardSaid : Prop := Claim7.holds Tryd.pinned (.plain (OpenSpec.ofChange bitsGetsSpec)) bitsGetsCard

/-- THE TIED CARD OF 'escritoirelaw.RealParts'. -/
def realPartsCard : Claim7 := { stood := { row := realPartsRow, standIns := [], harness := (true, "3b0d49a305b6ff5d1a1a1feb09324edcc88c1a7c5ca6bbdad416f560252e3f13"), looks := true }, kinds := [], alts := [], laidByText := true, laidKinds := [.handle], laidTests := true, laidLooks := .later }
def RealPartsCardSaid : Prop := Claim7.holds Tryd.pinned (.plain (OpenSpec.ofChange realPartsSpec)) realPartsCard

/-- THE TIED CARD OF 'escritoirelaw.WordPuts'. -/
def wordPutsCard : Claim7 := { stood := { row := wordPutsRow, standIns := [], harness := (true, "3b0d49a305b6ff5d1a1a1feb09324edcc88c1a7c5ca6bbdad416f560252e3f13"), looks := true }, kinds := [], alts := [], laidByText := true, laidKinds := [.handle], laidTests := true, laidLooks := .later }
def WordPutsCardSaid : Prop := Claim7.holds Tryd.pinned (.plain (OpenSpec.ofChange wordPutsSpec)) wordPutsCard

/-- THE TIED CARD OF 'escritoirelaw.BitsPuts'. -/
def bitsPutsCard : Claim7 := { stood := { row := bitsPutsRow, standIns := [], harness := (true, "3b0d49a305b6ff5d1a1a1feb09324edcc88c1a7c5ca6bbdad416f560252e3f13"), looks := true }, kinds := [], alts := [], laidByText := true, laidKinds := [.handle], laidTests := true, laidLooks := .later }
def BitsPutsCardSaid : Prop := Claim7.holds Tryd.pinned (.plain (OpenSpec.ofChange bitsPutsSpec)) bitsPutsCard

/-- THE SECOND FORM's CARD OF 'escritoirelaw.TextDecodes'. -/
def textDecodesUptoCard : Claim7 := { stood := { row := textDecodesUptoRow, standIns := [], harness := (true, "3b0d49a305b6ff5d1a1a1feb09324edcc88c1a7c5ca6bbdad416f560252e3f13"), looks := true }, kinds := [], alts := [], laidByText := true, laidKinds := [.data, .pinned], laidTests := true, laidLooks := .later }
def TextDecodesUptoCardSaid : Prop := Claim7.holds Tryd.pinned (.plain (OpenSpec.upto textDecodesSpec)) textDecodesUptoCard

/-- THE SECOND FORM's CARD OF 'escritoirelaw.WordGets'. -/
def wordGetsUptoCard : Claim7 := { stood := { row := wordGetsUptoRow, standIns := [], harness := (true, "3b0d49a305b6ff5d1a1a1feb09324edcc88c1a7c5ca6bbdad416f560252e3f13"), looks := true }, kinds := [], alts := [], laidByText := true, laidKinds := [.handle], laidTests := true, laidLooks := .later }
def WordGetsUptoCardSaid : Prop := Claim7.holds Tryd.pinned (.plain (OpenSpec.upto wordGetsSpec)) wordGetsUptoCard

/-- THE SECOND FORM's CARD OF 'escritoirelaw.RealJoins'. -/
def realJoinsUptoCard : Claim7 := { stood := { row := realJoinsUptoRow, standIns := [], harness := (true, "3b0d49a305b6ff5d1a1a1feb09324edcc88c1a7c5ca6bbdad416f560252e3f13"), looks := true }, kinds := [], alts := [], laidByText := true, laidKinds := [.handle], laidTests := true, laidLooks := .later }
def RealJoinsUptoCardSaid : Prop := Claim7.holds Tryd.pinned (.plain (OpenSpec.upto realJoinsSpec)) realJoinsUptoCard

/-- THE SECOND FORM's CARD OF 'escritoirelaw.BitsGets'. -/
def bitsGetsUptoCard : Claim7 := { stood := { row := bitsGetsUptoRow, standIns := [], harness := (true, "3b0d49a305b6ff5d1a1a1feb09324edcc88c1a7c5ca6bbdad416f560252e3f13"), looks := true }, kinds := [], alts := [], laidByText := true, laidKinds := [.handle], laidTests := true, laidLooks := .later }
def BitsGetsUptoCardSaid : Prop := Claim7.holds Tryd.pinned (.plain (OpenSpec.upto bitsGetsSpec)) bitsGetsUptoCard

/-- THE SECOND FORM's CARD OF 'escritoirelaw.RealParts'. -/
def realPartsUptoCard : Claim7 := { stood := { row := realPartsUptoRow, standIns := [], harness := (true, "3b0d49a305b6ff5d1a1a1feb09324edcc88c1a7c5ca6bbdad416f560252e3f13"), looks := true }, kinds := [], alts := [], laidByText := true, laidKinds := [.handle], laidTests := true, laidLooks := .later }
def RealPartsUptoCardSaid : Prop := Claim7.holds Tryd.pinned (.plain (OpenSpec.upto realPartsSpec)) realPartsUptoCard

/-- THE SECOND FORM's CARD OF 'escritoirelaw.WordPuts'. -/
def wordPutsUptoCard : Claim7 := { stood := { row := wordPutsUptoRow, standIns := [], harness := (true, "3b0d49a305b6ff5d1a1a1feb09324edcc88c1a7c5ca6bbdad416f560252e3f13"), looks := true }, kinds := [], alts := [], laidByText := true, laidKinds := [.handle], laidTests := true, laidLooks := .later }
def WordPutsUptoCardSaid : Prop := Claim7.holds Tryd.pinned (.plain (OpenSpec.upto wordPutsSpec)) wordPutsUptoCard

/-- THE SECOND FORM's CARD OF 'escritoirelaw.BitsPuts'. -/
def bitsPutsUptoCard : Claim7 := { stood := { row := bitsPutsUptoRow, standIns := [], harness := (true, "3b0d49a305b6ff5d1a1a1feb09324edcc88c1a7c5ca6bbdad416f560252e3f13"), looks := true }, kinds := [], alts := [], laidByText := true, laidKinds := [.handle], laidTests := true, laidLooks := .later }
def BitsPutsUptoCardSaid : Prop := Claim7.holds Tryd.pinned (.plain (OpenSpec.upto bitsPutsSpec)) bitsPutsUptoCard
end Rows
end Go.Proofs.YtebjccenlfhilaaDoor
