/-
  DERIVED. GIVEN WITH THE SEED: THE CARDS: each row of YtjicnffafhbmbaaDoorRows.lean that lists a variable, with what it lists TIED to the program's text (the seventh form; the later family's looks); each row that meets fmt, with fmt's text TOLD by the authors' own Lean function (tested against real Go, not proved from fmt's source: count such statements apart). THE CARD IS WHAT COUNTS. Prove the row's statement (the work); the ties are given (YtjicnffafhbmbaaDoorTie.lean); close each card by the builder's one call (the guide's Derived/Test/ToyasCard.lean, 'card_holds'). Laid BY PROGRAM, IN A SANDBOX (cutbox-door.mjs). By AI agents, Wed Nov 11 2026. No macro, syntax, notation, axiom, sorry.
-/
import Derived.Test.YtjicnffafhbmbaaDoorRows
import GoSem.ClaimSeven
namespace Go.Proofs.YtjicnffafhbmbaaDoor
namespace Rows

/-- THE TIED CARD OF 'escritoirelaw.DiffBoth'. -/
def diffBothCard : Claim7 := { stood := { row := diffBothRow, standIns := [], harness := (true, "44df7a4acca20d33e30f5afa64da320650ee15f27aa591db5837e61e39e97890"), looks := true }, kinds := [], alts := [], laidByText := true, laidKinds := [.handle], laidTests := true, laidLooks := .later }
def DiffBothCardSaid : Prop := Claim7.holds Tryd.pinned (.plain (OpenSpec.ofChange diffBothSpec)) diffBothCard

/-- THE SECOND FORM's CARD OF 'escritoirelaw.DiffBoth'. -/
def diffBothUptoCard : Claim7 := { stood := { row := diffBothUptoRow, standIns := [], harness := (true, "44df7a4acca20d33e30f5afa64da320650ee15f27aa591db5837e61e39e97890"), looks := true }, kinds := [], alts := [], laidByText := true, laidKinds := [.handle], laidTests := true, laidLooks := .later }
def DiffBothUptoCardSaid : Prop := Claim7.holds Tryd.pinned (.plain (OpenSpec.upto diffBothSpec)) diffBothUptoCard
end Rows
end Go.Proofs.YtjicnffafhbmbaaDoor
