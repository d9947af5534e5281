/-
  DERIVED. GIVEN WITH THE SEED: THE CARDS: each row of YtijcehimdhbceaaDoorRows.lean that lists a variable, with what it lists TIED to the program's text (the seventh form; the later family's looks); each row that meets fmt, with fmt's text TOLD by the authors' own Lean function (tested against real Go, not proved from fmt's source: count such statements apart). THE CARD IS WHAT COUNTS. Prove the row's statement (the work); the ties are given (YtijcehimdhbceaaDoorTie.lean); close each card by the builder's one call (the guide's Derived/Test/ToyasCard.lean, 'card_holds'). Laid BY PROGRAM, IN A SANDBOX (cutbox-door.mjs). By AI agents, Wed Nov 11 2026. No macro, syntax, notation, axiom, sorry.
-/
import Derived.Test.YtijcehimdhbceaaDoorRows
import GoSem.ClaimSeven
namespace Go.Proofs.YtijcehimdhbceaaDoor
namespace Rows

/-- THE TIED CARD OF 'escritoirelaw.LexCuts'. -/
def lexCutsCard : Claim7 := { stood := { row := lexCutsRow, standIns := [], harness := (true, "6252a727ce382370fa39dd90242a46a0a4c69f7c8b0308e446d791fc1f955250"), looks := true }, kinds := [], alts := [], laidByText := true, laidKinds := [.handle, .data], laidTests := true, laidLooks := .later }
def LexCutsCardSaid : Prop := Claim7.holds Tryd.pinned (.plain (OpenSpec.ofChange lexCutsSpec)) lexCutsCard

/-- THE TIED CARD OF 'escritoirelaw.UndoKeeps'. -/
def undoKeepsCard : Claim7 := { stood := { row := undoKeepsRow, standIns := [], harness := (true, "6252a727ce382370fa39dd90242a46a0a4c69f7c8b0308e446d791fc1f955250"), looks := true }, kinds := [], alts := [], laidByText := true, laidKinds := [.handle], laidTests := true, laidLooks := .later }
def UndoKeepsCardSaid : Prop := Claim7.holds Tryd.pinned (.plain (OpenSpec.ofChange undoKeepsSpec)) undoKeepsCard

/-- THE SECOND FORM's CARD OF 'escritoirelaw.LexCuts'. -/
def lexCutsUptoCard : Claim7 := { stood := { row := lexCutsUptoRow, standIns := [], harness := (true, "6252a727ce382370fa39dd90242a46a0a4c69f7c8b0308e446d791fc1f955250"), looks := true }, kinds := [], alts := [], laidByText := true, laidKinds := [.handle, .data], laidTests := true, laidLooks := .later }
def LexCutsUptoCardSaid : Prop := Claim7.holds Tryd.pinned (.plain (OpenSpec.upto lexCutsSpec)) lexCutsUptoCard

/-- THE SECOND FORM's CARD OF 'escritoirelaw.UndoKeeps'. -/
def undoKeepsUptoCard : Claim7 := { stood := { row := undoKeepsUptoRow, standIns := [], harness := (true, "6252a727ce382370fa39dd90242a46a0a4c69f7c8b0308e446d791fc1f955250"), looks := true }, kinds := [], alts := [], laidByText := true, laidKinds := [.handle], laidTests := true, laidLooks := .later }
def UndoKeepsUptoCardSaid : Prop := Claim7.holds Tryd.pinned (.plain (OpenSpec.upto undoKeepsSpec)) undoKeepsUptoCard
end Rows
end Go.Proofs.YtijcehimdhbceaaDoor
