/-
  DERIVED. GIVEN WITH THE SEED: THE CARDS: each row of YtpnjlmpamincoaaDoorRows.lean that lists a variable, with what it lists TIED to the program's text (the seventh form; the later family's looks); each row that meets fmt, with fmt's text TOLD by the authors' own Lean function (tested against real Go, not proved from fmt's source: count such statements apart). THE CARD IS WHAT COUNTS. Prove the row's statement (the work); the ties are given (YtpnjlmpamincoaaDoorTie.lean); close each card by the builder's one call (the guide's Derived/Test/ToyasCard.lean, 'card_holds'). Laid BY PROGRAM, IN A SANDBOX (cutbox-door.mjs). By AI agents, Wed Nov 11 2026. No macro, syntax, notation, axiom, sorry.
-/
import Derived.Test.YtpnjlmpamincoaaDoorRows
import GoSem.ClaimSeven
namespace Go.Proofs.YtpnjlmpamincoaaDoor
namespace Rows

/-- THE TIED CARD OF 'escritoirelaw.TypesFinds'. -/
def typesFindsCard : Claim7 := { stood := { row := typesFindsRow, standIns := [], harness := (true, "86066062c16b2f111d35d08e063edb240f1cf6d83ef6077ee9563094d173628f"), looks := true }, kinds := [], alts := [], laidByText := true, laidKinds := [.handle], laidTests := true, laidLooks := .later }
def TypesFindsCardSaid : Prop := Claim7.holds Tryd.pinned (.plain (OpenSpec.ofChange typesFindsSpec)) typesFindsCard

/-- THE SECOND FORM's CARD OF 'escritoirelaw.TypesFinds'. -/
def typesFindsUptoCard : Claim7 := { stood := { row := typesFindsUptoRow, standIns := [], harness := (true, "86066062c16b2f111d35d08e063edb240f1cf6d83ef6077ee9563094d173628f"), looks := true }, kinds := [], alts := [], laidByText := true, laidKinds := [.handle], laidTests := true, laidLooks := .later }
def TypesFindsUptoCardSaid : Prop := Claim7.holds Tryd.pinned (.plain (OpenSpec.upto typesFindsSpec)) typesFindsUptoCard
end Rows
end Go.Proofs.YtpnjlmpamincoaaDoor
