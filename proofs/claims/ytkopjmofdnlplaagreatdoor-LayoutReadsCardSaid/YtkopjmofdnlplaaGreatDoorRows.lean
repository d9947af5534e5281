/-
  NARROWER THAN 'FOR EVERY INPUT', by the rows' own cells (each row's printed sentence says how): LayoutReads: laid · LayoutWrites: loops, laid · FixDoes: laid · FixEdits: laid.
  DERIVED. THE GIVEN ROWS OF THIS SEAT. 4 by the template 'for every input the law returns true; each argument reads behind the call as it read before'; 0 by the template 'total and deterministic' (their statements: YtkopjmofdnlplaaGreatDoorTotals.lean).
  GIVEN WITH THE SEED: the statements are not yours to turn. If you find one false, say at which input.
  Laid BY PROGRAM, IN A SANDBOX (cutbox-rows.mjs): the forced cells as the released guide's own fill.sh prints them over the translation d4b9362239654d5c… (all of the seat's roots in one cut). By AI agents, Wed Nov 11 2026. No macro, syntax, notation, axiom, sorry.
-/
import Derived.Test.YtkopjmofdnlplaaGreatDoorChecked
import GoSem.Claim
import GoSem.ClaimJoined
import GoSem.ClaimMapViews
import Derived.JoinedTies
import Derived.KernelRfl
namespace Go.Proofs.YtkopjmofdnlplaaGreatDoor
/- THE CELL 'sum', in the pinned program and in every row, IS THE sha256 OF THE DUMP (.gsa) THAT YtkopjmofdnlplaaGreatDoorProg.lean LOADS. Nothing in Lean hashes anything: it is a label: what it is worth is what the hold of that sum in a sandbox is worth. -/
noncomputable def Tryz.pinned : Pinned := { name := "ytkopjmofdnlplaagreatdoor", sum := "d4b9362239654d5cbdb4818aa8393be43285fac617694d2ff1e49853feb0138a", checked := Tryz.checked }
namespace Rows
def none {H : Type} : Left H := { results := [], args := [] }

/- WHAT THE LISTED PACKAGE-LEVEL VARIABLES READ AS WHEN THE CALL BEGINS. Each datum BY PROGRAM (the guide's laid-datum.mjs) off the statement by which the dump's own 'gosem.cut.vars' lays the variable. In a bare row this is a premise. The card (YtkopjmofdnlplaaGreatDoorCards.lean) ties it to the program's text. -/
def laid_errors_errorType {H : Type} : DataW H := .iface "internal/reflectlite.rtype" (.agg [.ptr (.lit (.string [101, 114, 114, 111, 114]))])

/-- 'escritoirelaw.LayoutReads': WHATEVER THE INPUT: true; the input reads as it did. -/
def layoutReadsSpec : ChangeSpec := { name := "layoutReads", fn := fun _ => fun
  | [d1, d2, d3] => { results := [.lit (.bool true)], args := [d1, d2, d3] }
  | _ => none }
def layoutReadsRow : OpenClaim := { program := "ytkopjmofdnlplaagreatdoor", sum := "d4b9362239654d5cbdb4818aa8393be43285fac617694d2ff1e49853feb0138a", func := "escritoire/escritoirelaw.LayoutReads", spec := "layoutReads", inPlace := ["internal/bytealg.IndexByteString", "internal/bytealg.IndexString", "math/bits.Add64", "internal/reflectlite.ValueOf", "(internal/reflectlite.Value).Type", "(internal/reflectlite.Value).IsNil", "internal/reflectlite.TypeOf", "(internal/reflectlite.Value).Elem", "(internal/reflectlite.Value).Set"], unfollowed := true, recurses := true, named := ["internal/bytealg.MaxLen", "errors.errorType"], apart := false, laid := [("errors.errorType", laid_errors_errorType)] }
def LayoutReadsSaid : Prop := layoutReadsRow.holds Tryz.pinned (OpenSpec.ofChange layoutReadsSpec)

/-- ITS FALSE NEIGHBOUR: 'it returns false'. Refute it at one input. -/
def layoutReadsWrong : ChangeSpec := { name := "layoutReads", fn := fun _ => fun
  | [d1, d2, d3] => { results := [.lit (.bool false)], args := [d1, d2, d3] }
  | _ => none }
def LayoutReadsWrongFalsely : Prop := layoutReadsRow.holds Tryz.pinned (OpenSpec.ofChange layoutReadsWrong)

/-- 'escritoirelaw.LayoutWrites': WHATEVER THE INPUT: true; the input reads as it did. -/
def layoutWritesSpec : ChangeSpec := { name := "layoutWrites", fn := fun _ => fun
  | [d1, d2, d3] => { results := [.lit (.bool true)], args := [d1, d2, d3] }
  | _ => none }
def layoutWritesRow : OpenClaim := { program := "ytkopjmofdnlplaagreatdoor", sum := "d4b9362239654d5cbdb4818aa8393be43285fac617694d2ff1e49853feb0138a", func := "escritoire/escritoirelaw.LayoutWrites", spec := "layoutWrites", inPlace := ["internal/bytealg.IndexByteString", "internal/bytealg.IndexString", "math/bits.Add64", "internal/reflectlite.ValueOf", "(internal/reflectlite.Value).Type", "(internal/reflectlite.Value).IsNil", "internal/reflectlite.TypeOf", "(internal/reflectlite.Value).Elem", "(internal/reflectlite.Value).Set"], unfollowed := true, recurses := true, named := ["internal/bytealg.MaxLen", "errors.errorType"], loops := true, apart := false, laid := [("errors.errorType", laid_errors_errorType)] }
def LayoutWritesSaid : Prop := layoutWritesRow.holds Tryz.pinned (OpenSpec.ofChange layoutWritesSpec)

/-- ITS FALSE NEIGHBOUR: 'it returns false'. Refute it at one input. -/
def layoutWritesWrong : ChangeSpec := { name := "layoutWrites", fn := fun _ => fun
  | [d1, d2, d3] => { results := [.lit (.bool false)], args := [d1, d2, d3] }
  | _ => none }
def LayoutWritesWrongFalsely : Prop := layoutWritesRow.holds Tryz.pinned (OpenSpec.ofChange layoutWritesWrong)

/-- 'escritoirelaw.FixDoes': WHATEVER THE INPUT: true; the input reads as it did. -/
def fixDoesSpec : ChangeSpec := { name := "fixDoes", fn := fun _ => fun
  | [d1, d2, d3] => { results := [.lit (.bool true)], args := [d1, d2, d3] }
  | _ => none }
def fixDoesRow : OpenClaim := { program := "ytkopjmofdnlplaagreatdoor", sum := "d4b9362239654d5cbdb4818aa8393be43285fac617694d2ff1e49853feb0138a", func := "escritoire/escritoirelaw.FixDoes", spec := "fixDoes", inPlace := ["internal/bytealg.IndexByteString", "internal/bytealg.IndexString", "math/bits.Add64", "internal/reflectlite.ValueOf", "(internal/reflectlite.Value).Type", "(internal/reflectlite.Value).IsNil", "internal/reflectlite.TypeOf", "(internal/reflectlite.Value).Elem", "(internal/reflectlite.Value).Set"], unfollowed := true, recurses := true, named := ["internal/bytealg.MaxLen", "errors.errorType"], apart := false, laid := [("errors.errorType", laid_errors_errorType)] }
def FixDoesSaid : Prop := fixDoesRow.holds Tryz.pinned (OpenSpec.ofChange fixDoesSpec)

/-- ITS FALSE NEIGHBOUR: 'it returns false'. Refute it at one input. -/
def fixDoesWrong : ChangeSpec := { name := "fixDoes", fn := fun _ => fun
  | [d1, d2, d3] => { results := [.lit (.bool false)], args := [d1, d2, d3] }
  | _ => none }
def FixDoesWrongFalsely : Prop := fixDoesRow.holds Tryz.pinned (OpenSpec.ofChange fixDoesWrong)

/-- 'escritoirelaw.FixEdits': WHATEVER THE INPUT: true; the input reads as it did. -/
def fixEditsSpec : ChangeSpec := { name := "fixEdits", fn := fun _ => fun
  | [d1, d2, d3, d4, d5, d6] => { results := [.lit (.bool true)], args := [d1, d2, d3, d4, d5, d6] }
  | _ => none }
def fixEditsRow : OpenClaim := { program := "ytkopjmofdnlplaagreatdoor", sum := "d4b9362239654d5cbdb4818aa8393be43285fac617694d2ff1e49853feb0138a", func := "escritoire/escritoirelaw.FixEdits", spec := "fixEdits", inPlace := ["internal/bytealg.IndexByteString", "internal/bytealg.IndexString", "math/bits.Add64", "internal/reflectlite.ValueOf", "(internal/reflectlite.Value).Type", "(internal/reflectlite.Value).IsNil", "internal/reflectlite.TypeOf", "(internal/reflectlite.Value).Elem", "(internal/reflectlite.Value).Set", "slices.overlaps[escritoire/api.Node]"], unfollowed := true, recurses := true, named := ["internal/bytealg.MaxLen", "errors.errorType"], apart := false, laid := [("errors.errorType", laid_errors_errorType)] }
def FixEditsSaid : Prop := fixEditsRow.holds Tryz.pinned (OpenSpec.ofChange fixEditsSpec)

/-- ITS FALSE NEIGHBOUR: 'it returns false'. Refute it at one input. -/
def fixEditsWrong : ChangeSpec := { name := "fixEdits", fn := fun _ => fun
  | [d1, d2, d3, d4, d5, d6] => { results := [.lit (.bool false)], args := [d1, d2, d3, d4, d5, d6] }
  | _ => none }
def FixEditsWrongFalsely : Prop := fixEditsRow.holds Tryz.pinned (OpenSpec.ofChange fixEditsWrong)

/- THE SECOND FORM. 'bulk': how many values and letters a reading holds, each counted each time it is reached (what is shared counts as often as it is met; a slice's spare places count too). A statement '..UptoSaid' is the law's where the arguments, and the package variables that the reading takes, are together of bulk at most 1048576: NARROWER than '..Said'. Prove '..Said' where nothing that the law and all that it calls make is longer than what came in: it says more and counts as full. Else prove '..UptoSaid'. A law counts once. -/
mutual
def uptoBulk {H : Type} : DataW H → Nat
  | .lit (.string bytes) => bytes.length + 1
  | .lit _ => 1
  | .nil => 1
  | .ptr d => uptoBulk d + 1
  | .slice elems spare => uptoBulkAll elems + uptoBulkAll spare + 1
  | .agg parts => uptoBulkAll parts + 1
  | .iface _ d => uptoBulk d + 1
  | .map entries => uptoBulkEntries entries + 1
  | .held _ => 1
def uptoBulkAll {H : Type} : List (DataW H) → Nat
  | [] => 0
  | d :: r => uptoBulk d + uptoBulkAll r
def uptoBulkEntries {H : Type} : List (Lit × DataW H) → Nat
  | [] => 0
  | x :: r => uptoBulkEntry x + uptoBulkEntries r
def uptoBulkEntry {H : Type} : Lit × DataW H → Nat
  | (.string bytes, d) => bytes.length + uptoBulk d + 1
  | (_, d) => uptoBulk d + 1
 end
def uptoSmall : (H : Type) → List (DataW H) → Bool := fun _ ds => decide (uptoBulkAll ds ≤ 1048576)
def OpenSpec.upto (s : _root_.Go.ChangeSpec) : _root_.Go.OpenSpec := { _root_.Go.OpenSpec.ofChange s with cond := some uptoSmall }

/-- 'escritoirelaw.LayoutReads', WHERE WHAT IT READS IS OF BULK AT MOST 1048576: true; the input reads as it did. -/
def layoutReadsUptoRow : OpenClaim := { program := "ytkopjmofdnlplaagreatdoor", sum := "d4b9362239654d5cbdb4818aa8393be43285fac617694d2ff1e49853feb0138a", func := "escritoire/escritoirelaw.LayoutReads", spec := "layoutReads", inPlace := ["internal/bytealg.IndexByteString", "internal/bytealg.IndexString", "math/bits.Add64", "internal/reflectlite.ValueOf", "(internal/reflectlite.Value).Type", "(internal/reflectlite.Value).IsNil", "internal/reflectlite.TypeOf", "(internal/reflectlite.Value).Elem", "(internal/reflectlite.Value).Set"], unfollowed := true, recurses := true, named := ["internal/bytealg.MaxLen", "errors.errorType"], apart := false, laid := [("errors.errorType", laid_errors_errorType)], narrowed := true }
def LayoutReadsUptoSaid : Prop := layoutReadsUptoRow.holds Tryz.pinned (OpenSpec.upto layoutReadsSpec)

/-- 'escritoirelaw.LayoutWrites', WHERE WHAT IT READS IS OF BULK AT MOST 1048576: true; the input reads as it did. -/
def layoutWritesUptoRow : OpenClaim := { program := "ytkopjmofdnlplaagreatdoor", sum := "d4b9362239654d5cbdb4818aa8393be43285fac617694d2ff1e49853feb0138a", func := "escritoire/escritoirelaw.LayoutWrites", spec := "layoutWrites", inPlace := ["internal/bytealg.IndexByteString", "internal/bytealg.IndexString", "math/bits.Add64", "internal/reflectlite.ValueOf", "(internal/reflectlite.Value).Type", "(internal/reflectlite.Value).IsNil", "internal/reflectlite.TypeOf", "(internal/reflectlite.Value).Elem", "(internal/reflectlite.Value).Set"], unfollowed := true, recurses := true, named := ["internal/bytealg.MaxLen", "errors.errorType"], loops := true, apart := false, laid := [("errors.errorType", laid_errors_errorType)], narrowed := true }
def LayoutWritesUptoSaid : Prop := layoutWritesUptoRow.holds Tryz.pinned (OpenSpec.upto layoutWritesSpec)

/-- 'escritoirelaw.FixDoes', WHERE WHAT IT READS IS OF BULK AT MOST 1048576: true; the input reads as it did. -/
def fixDoesUptoRow : OpenClaim := { program := "ytkopjmofdnlplaagreatdoor", sum := "d4b9362239654d5cbdb4818aa8393be43285fac617694d2ff1e49853feb0138a", func := "escritoire/escritoirelaw.FixDoes", spec := "fixDoes", inPlace := ["internal/bytealg.IndexByteString", "internal/bytealg.IndexString", "math/bits.Add64", "internal/reflectlite.ValueOf", "(internal/reflectlite.Value).Type", "(internal/reflectlite.Value).IsNil", "internal/reflectlite.TypeOf", "(internal/reflectlite.Value).Elem", "(internal/reflectlite.Value).Set"], unfollowed := true, recurses := true, named := ["internal/bytealg.MaxLen", "errors.errorType"], apart := false, laid := [("errors.errorType", laid_errors_errorType)], narrowed := true }
def FixDoesUptoSaid : Prop := fixDoesUptoRow.holds Tryz.pinned (OpenSpec.upto fixDoesSpec)

/-- 'escritoirelaw.FixEdits', WHERE WHAT IT READS IS OF BULK AT MOST 1048576: true; the input reads as it did. -/
def fixEditsUptoRow : OpenClaim := { program := "ytkopjmofdnlplaagreatdoor", sum := "d4b9362239654d5cbdb4818aa8393be43285fac617694d2ff1e49853feb0138a", func := "escritoire/escritoirelaw.FixEdits", spec := "fixEdits", inPlace := ["internal/bytealg.IndexByteString", "internal/bytealg.IndexString", "math/bits.Add64", "internal/reflectlite.ValueOf", "(internal/reflectlite.Value).Type", "(internal/reflectlite.Value).IsNil", "internal/reflectlite.TypeOf", "(internal/reflectlite.Value).Elem", "(internal/reflectlite.Value).Set", "slices.overlaps[escritoire/api.Node]"], unfollowed := true, recurses := true, named := ["internal/bytealg.MaxLen", "errors.errorType"], apart := false, laid := [("errors.errorType", laid_errors_errorType)], narrowed := true }
def FixEditsUptoSaid : Prop := fixEditsUptoRow.holds Tryz.pinned (OpenSpec.upto fixEditsSpec)

end Rows
end Go.Proofs.YtkopjmofdnlplaaGreatDoor
