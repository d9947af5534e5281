/-
  DERIVED. GIVEN WITH THE SEED: THE CARDS: each row of YtnbpninnanjemaaDoorRows.lean that lists a variable, with what it lists TIED to the program's text (the seventh form; the later family's looks); each row that meets fmt, with fmt's text TOLD by the authors' own Lean function (tested against real Go, not proved from fmt's source: count such statements apart). THE CARD IS WHAT COUNTS. Prove the row's statement (the work); the ties are given (YtnbpninnanjemaaDoorTie.lean); close each card by the builder's one call (the guide's Derived/Test/ToyasCard.lean, 'card_holds'). Laid BY PROGRAM, IN A SANDBOX (cutbox-door.mjs). By AI agents, Wed Nov 11 2026. No macro, syntax, notation, axiom, sorry.
-/
import Derived.Test.YtnbpninnanjemaaDoorRows
import GoSem.ClaimSeven
namespace Go.Proofs.YtnbpninnanjemaaDoor
namespace Rows

/-- THE TIED CARD OF 'escritoirelaw.LzPacks'. -/
def lzPacksCard : Claim7 := { stood := { row := lzPacksRow, standIns := [], harness := (true, "0df52079823dd29dd436ab03274dfb740543040c51291240697706c270cc0d1e"), looks := true }, kinds := [], alts := [], laidByText := true, laidKinds := [.handle], laidTests := true, laidLooks := .later }
def LzPacksCardSaid : Prop := Claim7.holds Tryd.pinned (.plain (OpenSpec.ofChange lzPacksSpec)) lzPacksCard

/-- THE TIED CARD OF 'escritoirelaw.XxdLoads'. -/
def xxdLoadsCard : Claim7 := { stood := { row := xxdLoadsRow, standIns := [], harness := (true, "0df52079823dd29dd436ab03274dfb740543040c51291240697706c270cc0d1e"), looks := true }, kinds := [], alts := [], laidByText := true, laidKinds := [.data, .handle, .pinned], laidTests := true, laidLooks := .later }
def XxdLoadsCardSaid : Prop := Claim7.holds Tryd.pinned (.plain (OpenSpec.ofChange xxdLoadsSpec)) xxdLoadsCard

/-- THE SECOND FORM's CARD OF 'escritoirelaw.LzPacks'. -/
def lzPacksUptoCard : Claim7 := { stood := { row := lzPacksUptoRow, standIns := [], harness := (true, "0df52079823dd29dd436ab03274dfb740543040c51291240697706c270cc0d1e"), looks := true }, kinds := [], alts := [], laidByText := true, laidKinds := [.handle], laidTests := true, laidLooks := .later }
def LzPacksUptoCardSaid : Prop := Claim7.holds Tryd.pinned (.plain (OpenSpec.upto lzPacksSpec)) lzPacksUptoCard

/-- THE SECOND FORM's CARD OF 'escritoirelaw.XxdLoads'. -/
def xxdLoadsUptoCard : Claim7 := { stood := { row := xxdLoadsUptoRow, standIns := [], harness := (true, "0df52079823dd29dd436ab03274dfb740543040c51291240697706c270cc0d1e"), looks := true }, kinds := [], alts := [], laidByText := true, laidKinds := [.data, .handle, .pinned], laidTests := true, laidLooks := .later }
def XxdLoadsUptoCardSaid : Prop := Claim7.holds Tryd.pinned (.plain (OpenSpec.upto xxdLoadsSpec)) xxdLoadsUptoCard
end Rows
end Go.Proofs.YtnbpninnanjemaaDoor
