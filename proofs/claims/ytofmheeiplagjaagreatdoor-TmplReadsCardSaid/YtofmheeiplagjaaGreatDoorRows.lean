/-
  NARROWER THAN 'FOR EVERY INPUT', by the rows' own cells (each row's printed sentence says how): ExprReads: maps, laid · TmplReads: laid.
  DERIVED. THE GIVEN ROWS OF THIS SEAT. 2 by the template 'for every input the law returns true; each argument reads behind the call as it read before'; 0 by the template 'total and deterministic' (their statements: YtofmheeiplagjaaGreatDoorTotals.lean).
  GIVEN WITH THE SEED: the statements are not yours to turn. If you find one false, say at which input.
  Laid BY PROGRAM, IN A SANDBOX (cutbox-rows.mjs): the forced cells as the released guide's own fill.sh prints them over the translation ed096e12d9b2b9be… (all of the seat's roots in one cut). By AI agents, Wed Nov 11 2026. No macro, syntax, notation, axiom, sorry.
-/
import Derived.Test.YtofmheeiplagjaaGreatDoorChecked
import GoSem.Claim
import GoSem.ClaimJoined
import GoSem.ClaimMapViews
import Derived.JoinedTies
import Derived.KernelRfl
namespace Go.Proofs.YtofmheeiplagjaaGreatDoor
/- THE CELL 'sum', in the pinned program and in every row, IS THE sha256 OF THE DUMP (.gsa) THAT YtofmheeiplagjaaGreatDoorProg.lean LOADS. Nothing in Lean hashes anything: it is a label: what it is worth is what the hold of that sum in a sandbox is worth. -/
noncomputable def Tryz.pinned : Pinned := { name := "ytofmheeiplagjaagreatdoor", sum := "ed096e12d9b2b9bebe22372cadec16261abfdc5c343269ab632a8eee962eb93a", checked := Tryz.checked }
namespace Rows
def none {H : Type} : Left H := { results := [], args := [] }

/- WHAT THE LISTED PACKAGE-LEVEL VARIABLES READ AS WHEN THE CALL BEGINS. Each datum BY PROGRAM (the guide's laid-datum.mjs) off the statement by which the dump's own 'gosem.cut.vars' lays the variable. In a bare row this is a premise. The card (YtofmheeiplagjaaGreatDoorCards.lean) ties it to the program's text. -/
def laid_errors_errorType {H : Type} : DataW H := .iface "internal/reflectlite.rtype" (.agg [.ptr (.lit (.string [101, 114, 114, 111, 114]))])
def laid_escritoire_lex_marks {H : Type} : DataW H := .agg [.lit (.string [61, 61]), .lit (.string [33, 61]), .lit (.string [123]), .lit (.string [125]), .lit (.string [91]), .lit (.string [93]), .lit (.string [40]), .lit (.string [41]), .lit (.string [59]), .lit (.string [44]), .lit (.string [61]), .lit (.string [43]), .lit (.string [45]), .lit (.string [42]), .lit (.string [38]), .lit (.string [124]), .lit (.string [60]), .lit (.string [62])]
def laid_escritoire_expr_levels {H : Type} : DataW H := .agg [.slice [.lit (.string [61, 61]), .lit (.string [33, 61]), .lit (.string [60]), .lit (.string [62])] [], .slice [.lit (.string [43]), .lit (.string [45]), .lit (.string [124])] [], .slice [.lit (.string [42]), .lit (.string [38])] []]

/-- 'escritoirelaw.ExprReads': WHATEVER THE INPUT: true; the input reads as it did. -/
def exprReadsSpec : ChangeSpec := { name := "exprReads", fn := fun _ => fun
  | [d1, d2] => { results := [.lit (.bool true)], args := [d1, d2] }
  | _ => none }
def exprReadsRow : OpenClaim := { program := "ytofmheeiplagjaagreatdoor", sum := "ed096e12d9b2b9bebe22372cadec16261abfdc5c343269ab632a8eee962eb93a", func := "escritoire/escritoirelaw.ExprReads", spec := "exprReads", inPlace := ["internal/bytealg.IndexByteString", "internal/bytealg.IndexString", "math/bits.Add64", "internal/reflectlite.ValueOf", "(internal/reflectlite.Value).Type", "(internal/reflectlite.Value).IsNil", "internal/reflectlite.TypeOf", "(internal/reflectlite.Value).Elem", "(internal/reflectlite.Value).Set"], unfollowed := true, recurses := true, named := ["internal/bytealg.MaxLen", "escritoire/lex.marks", "escritoire/expr.levels", "errors.errorType"], maps := true, apart := false, laid := [("errors.errorType", laid_errors_errorType), ("escritoire/lex.marks", laid_escritoire_lex_marks), ("escritoire/expr.levels", laid_escritoire_expr_levels)] }
def ExprReadsSaid : Prop := exprReadsRow.holds Tryz.pinned (OpenSpec.ofChange exprReadsSpec)

/-- ITS FALSE NEIGHBOUR: 'it returns false'. Refute it at one input. -/
def exprReadsWrong : ChangeSpec := { name := "exprReads", fn := fun _ => fun
  | [d1, d2] => { results := [.lit (.bool false)], args := [d1, d2] }
  | _ => none }
def ExprReadsWrongFalsely : Prop := exprReadsRow.holds Tryz.pinned (OpenSpec.ofChange exprReadsWrong)

/-- 'escritoirelaw.TmplReads': WHATEVER THE INPUT: true; the input reads as it did. -/
def tmplReadsSpec : ChangeSpec := { name := "tmplReads", fn := fun _ => fun
  | [d] => { results := [.lit (.bool true)], args := [d] }
  | _ => none }
def tmplReadsRow : OpenClaim := { program := "ytofmheeiplagjaagreatdoor", sum := "ed096e12d9b2b9bebe22372cadec16261abfdc5c343269ab632a8eee962eb93a", func := "escritoire/escritoirelaw.TmplReads", spec := "tmplReads", inPlace := ["internal/bytealg.IndexByteString", "internal/bytealg.IndexString", "math/bits.Add64", "internal/reflectlite.ValueOf", "(internal/reflectlite.Value).Type", "(internal/reflectlite.Value).IsNil", "internal/reflectlite.TypeOf", "(internal/reflectlite.Value).Elem", "(internal/reflectlite.Value).Set", "internal/abi.NoEscape", "internal/bytealg.MakeNoZero"], unfollowed := true, recurses := true, named := ["internal/bytealg.MaxLen", "escritoire/lex.marks", "escritoire/expr.levels", "errors.errorType"], apart := false, laid := [("errors.errorType", laid_errors_errorType), ("escritoire/lex.marks", laid_escritoire_lex_marks), ("escritoire/expr.levels", laid_escritoire_expr_levels)] }
def TmplReadsSaid : Prop := tmplReadsRow.holds Tryz.pinned (OpenSpec.ofChange tmplReadsSpec)

/-- ITS FALSE NEIGHBOUR: 'it returns false'. Refute it at one input. -/
def tmplReadsWrong : ChangeSpec := { name := "tmplReads", fn := fun _ => fun
  | [d] => { results := [.lit (.bool false)], args := [d] }
  | _ => none }
def TmplReadsWrongFalsely : Prop := tmplReadsRow.holds Tryz.pinned (OpenSpec.ofChange tmplReadsWrong)

/- THE SECOND FORM. 'bulk': how many values and letters a reading holds, each counted each time it is reached (what is shared counts as often as it is met; a slice's spare places count too). A statement '..UptoSaid' is the law's where the arguments, and the package variables that the reading takes, are together of bulk at most 1048576: NARROWER than '..Said'. Prove '..Said' where nothing that the law and all that it calls make is longer than what came in: it says more and counts as full. Else prove '..UptoSaid'. A law counts once. -/
mutual
def uptoBulk {H : Type} : DataW H → Nat
  | .lit (.string bytes) => bytes.length + 1
  | .lit _ => 1
  | .nil => 1
  | .ptr d => uptoBulk d + 1
  | .slice elems spare => uptoBulkAll elems + uptoBulkAll spare + 1
  | .agg parts => uptoBulkAll parts + 1
  | .iface _ d => uptoBulk d + 1
  | .map entries => uptoBulkEntries entries + 1
  | .held _ => 1
def uptoBulkAll {H : Type} : List (DataW H) → Nat
  | [] => 0
  | d :: r => uptoBulk d + uptoBulkAll r
def uptoBulkEntries {H : Type} : List (Lit × DataW H) → Nat
  | [] => 0
  | x :: r => uptoBulkEntry x + uptoBulkEntries r
def uptoBulkEntry {H : Type} : Lit × DataW H → Nat
  | (.string bytes, d) => bytes.length + uptoBulk d + 1
  | (_, d) => uptoBulk d + 1
 end
def uptoSmall : (H : Type) → List (DataW H) → Bool := fun _ ds => decide (uptoBulkAll ds ≤ 1048576)
def OpenSpec.upto (s : _root_.Go.ChangeSpec) : _root_.Go.OpenSpec := { _root_.Go.OpenSpec.ofChange s with cond := some uptoSmall }

/-- 'escritoirelaw.ExprReads', WHERE WHAT IT READS IS OF BULK AT MOST 1048576: true; the input reads as it did. -/
def exprReadsUptoRow : OpenClaim := { program := "ytofmheeiplagjaagreatdoor", sum := "ed096e12d9b2b9bebe22372cadec16261abfdc5c343269ab632a8eee962eb93a", func := "escritoire/escritoirelaw.ExprReads", spec := "exprReads", inPlace := ["internal/bytealg.IndexByteString", "internal/bytealg.IndexString", "math/bits.Add64", "internal/reflectlite.ValueOf", "(internal/reflectlite.Value).Type", "(internal/reflectlite.Value).IsNil", "internal/reflectlite.TypeOf", "(internal/reflectlite.Value).Elem", "(internal/reflectlite.Value).Set"], unfollowed := true, recurses := true, named := ["internal/bytealg.MaxLen", "escritoire/lex.marks", "escritoire/expr.levels", "errors.errorType"], maps := true, apart := false, laid := [("errors.errorType", laid_errors_errorType), ("escritoire/lex.marks", laid_escritoire_lex_marks), ("escritoire/expr.levels", laid_escritoire_expr_levels)], narrowed := true }
def ExprReadsUptoSaid : Prop := exprReadsUptoRow.holds Tryz.pinned (OpenSpec.upto exprReadsSpec)

/-- 'escritoirelaw.TmplReads', WHERE WHAT IT READS IS OF BULK AT MOST 1048576: true; the input reads as it did. -/
def tmplReadsUptoRow : OpenClaim := { program := "ytofmheeiplagjaagreatdoor", sum := "ed096e12d9b2b9bebe22372cadec16261abfdc5c343269ab632a8eee962eb93a", func := "escritoire/escritoirelaw.TmplReads", spec := "tmplReads", inPlace := ["internal/bytealg.IndexByteString", "internal/bytealg.IndexString", "math/bits.Add64", "internal/reflectlite.ValueOf", "(internal/reflectlite.Value).Type", "(internal/reflectlite.Value).IsNil", "internal/reflectlite.TypeOf", "(internal/reflectlite.Value).Elem", "(internal/reflectlite.Value).Set", "internal/abi.NoEscape", "internal/bytealg.MakeNoZero"], unfollowed := true, recurses := true, named := ["internal/bytealg.MaxLen", "escritoire/lex.marks", "escritoire/expr.levels", "errors.errorType"], apart := false, laid := [("errors.errorType", laid_errors_errorType), ("escritoire/lex.marks", laid_escritoire_lex_marks), ("escritoire/expr.levels", laid_escritoire_expr_levels)], narrowed := true }
def TmplReadsUptoSaid : Prop := tmplReadsUptoRow.holds Tryz.pinned (OpenSpec.upto tmplReadsSpec)

end Rows
end Go.Proofs.YtofmheeiplagjaaGreatDoor
