/-
  NARROWER THAN 'FOR EVERY INPUT', by the rows' own cells (each row's printed sentence says how): DigitsPrints: laid · DigitsHex: laid · DigitsParses: laid · TextNarrows: laid · TextEncodes: laid · RealSteps: laid · SumsOf: laid · SumsForce: laid · FindLike: laid · FindAll: laid · DiffApplies: laid.
  DERIVED. THE GIVEN ROWS OF THIS SEAT. 11 by the template 'for every input the law returns true; each argument reads behind the call as it read before'; 0 by the template 'total and deterministic' (their statements: YtifnochpmlllgaaDoorTotals.lean).
  GIVEN WITH THE SEED: the statements are not yours to turn. If you find one false, say at which input.
  Laid BY PROGRAM, IN A SANDBOX (cutbox-rows.mjs): the forced cells as the released guide's own fill.sh prints them over the translation 84566573f32991d4… (all of the seat's roots in one cut). By AI agents, Wed Nov 11 2026. No macro, syntax, notation, axiom, sorry.
-/
import Derived.Test.YtifnochpmlllgaaDoorChecked
import GoSem.Claim
import GoSem.ClaimJoined
import GoSem.ClaimMapViews
import Derived.JoinedTies
import Derived.KernelRfl
namespace Go.Proofs.YtifnochpmlllgaaDoor
/- THE CELL 'sum', in the pinned program and in every row, IS THE sha256 OF THE DUMP (.gsa) THAT YtifnochpmlllgaaDoorProg.lean LOADS. Nothing in Lean hashes anything: it is a label: what it is worth is what the hold of that sum in a sandbox is worth. -/
noncomputable def Tryd.pinned : Pinned := { name := "ytifnochpmlllgaadoor", sum := "84566573f32991d4672fc8e3546b26966033f42d69129f83215d5690cf53bfc0", checked := Tryd.checked }
namespace Rows
def none {H : Type} : Left H := { results := [], args := [] }

/- WHAT THE LISTED PACKAGE-LEVEL VARIABLES READ AS WHEN THE CALL BEGINS. Each datum BY PROGRAM (the guide's laid-datum.mjs) off the statement by which the dump's own 'gosem.cut.vars' lays the variable. In a bare row this is a premise. The card (YtifnochpmlllgaaDoorCards.lean) ties it to the program's text. -/
def laid_errors_errorType {H : Type} : DataW H := .iface "internal/reflectlite.rtype" (.agg [.ptr (.lit (.string [101, 114, 114, 111, 114]))])

/-- 'escritoirelaw.DigitsPrints': WHATEVER THE INPUT: true; the input reads as it did. -/
def digitsPrintsSpec : ChangeSpec := { name := "digitsPrints", fn := fun _ => fun
  | [d1, d2, d3, d4] => { results := [.lit (.bool true)], args := [d1, d2, d3, d4] }
  | _ => none }
def digitsPrintsRow : OpenClaim := { program := "ytifnochpmlllgaadoor", sum := "84566573f32991d4672fc8e3546b26966033f42d69129f83215d5690cf53bfc0", func := "escritoire/escritoirelaw.DigitsPrints", spec := "digitsPrints", inPlace := ["internal/reflectlite.ValueOf", "(internal/reflectlite.Value).Type", "(internal/reflectlite.Value).IsNil", "internal/reflectlite.TypeOf", "(internal/reflectlite.Value).Elem", "(internal/reflectlite.Value).Set"], unfollowed := true, recurses := true, named := ["errors.errorType"], apart := false, laid := [("errors.errorType", laid_errors_errorType)] }
def DigitsPrintsSaid : Prop := digitsPrintsRow.holds Tryd.pinned (OpenSpec.ofChange digitsPrintsSpec)

/-- ITS FALSE NEIGHBOUR: 'it returns false'. Refute it at one input. -/
def digitsPrintsWrong : ChangeSpec := { name := "digitsPrints", fn := fun _ => fun
  | [d1, d2, d3, d4] => { results := [.lit (.bool false)], args := [d1, d2, d3, d4] }
  | _ => none }
def DigitsPrintsWrongFalsely : Prop := digitsPrintsRow.holds Tryd.pinned (OpenSpec.ofChange digitsPrintsWrong)

/-- 'escritoirelaw.DigitsHex': WHATEVER THE INPUT: true; the input reads as it did. -/
def digitsHexSpec : ChangeSpec := { name := "digitsHex", fn := fun _ => fun
  | [d] => { results := [.lit (.bool true)], args := [d] }
  | _ => none }
def digitsHexRow : OpenClaim := { program := "ytifnochpmlllgaadoor", sum := "84566573f32991d4672fc8e3546b26966033f42d69129f83215d5690cf53bfc0", func := "escritoire/escritoirelaw.DigitsHex", spec := "digitsHex", inPlace := ["internal/reflectlite.ValueOf", "(internal/reflectlite.Value).Type", "(internal/reflectlite.Value).IsNil", "internal/reflectlite.TypeOf", "(internal/reflectlite.Value).Elem", "(internal/reflectlite.Value).Set"], unfollowed := true, recurses := true, named := ["errors.errorType"], apart := false, laid := [("errors.errorType", laid_errors_errorType)] }
def DigitsHexSaid : Prop := digitsHexRow.holds Tryd.pinned (OpenSpec.ofChange digitsHexSpec)

/-- ITS FALSE NEIGHBOUR: 'it returns false'. Refute it at one input. -/
def digitsHexWrong : ChangeSpec := { name := "digitsHex", fn := fun _ => fun
  | [d] => { results := [.lit (.bool false)], args := [d] }
  | _ => none }
def DigitsHexWrongFalsely : Prop := digitsHexRow.holds Tryd.pinned (OpenSpec.ofChange digitsHexWrong)

/-- 'escritoirelaw.DigitsParses': WHATEVER THE INPUT: true; the input reads as it did. -/
def digitsParsesSpec : ChangeSpec := { name := "digitsParses", fn := fun _ => fun
  | [d1, d2] => { results := [.lit (.bool true)], args := [d1, d2] }
  | _ => none }
def digitsParsesRow : OpenClaim := { program := "ytifnochpmlllgaadoor", sum := "84566573f32991d4672fc8e3546b26966033f42d69129f83215d5690cf53bfc0", func := "escritoire/escritoirelaw.DigitsParses", spec := "digitsParses", inPlace := ["math/bits.Add64", "internal/reflectlite.ValueOf", "(internal/reflectlite.Value).Type", "(internal/reflectlite.Value).IsNil", "internal/reflectlite.TypeOf", "(internal/reflectlite.Value).Elem", "(internal/reflectlite.Value).Set"], unfollowed := true, recurses := true, named := ["errors.errorType"], apart := false, laid := [("errors.errorType", laid_errors_errorType)] }
def DigitsParsesSaid : Prop := digitsParsesRow.holds Tryd.pinned (OpenSpec.ofChange digitsParsesSpec)

/-- ITS FALSE NEIGHBOUR: 'it returns false'. Refute it at one input. -/
def digitsParsesWrong : ChangeSpec := { name := "digitsParses", fn := fun _ => fun
  | [d1, d2] => { results := [.lit (.bool false)], args := [d1, d2] }
  | _ => none }
def DigitsParsesWrongFalsely : Prop := digitsParsesRow.holds Tryd.pinned (OpenSpec.ofChange digitsParsesWrong)

/-- 'escritoirelaw.TextNarrows': WHATEVER THE INPUT: true; the input reads as it did. -/
def textNarrowsSpec : ChangeSpec := { name := "textNarrows", fn := fun _ => fun
  | [d1, d2] => { results := [.lit (.bool true)], args := [d1, d2] }
  | _ => none }
def textNarrowsRow : OpenClaim := { program := "ytifnochpmlllgaadoor", sum := "84566573f32991d4672fc8e3546b26966033f42d69129f83215d5690cf53bfc0", func := "escritoire/escritoirelaw.TextNarrows", spec := "textNarrows", inPlace := ["internal/reflectlite.ValueOf", "(internal/reflectlite.Value).Type", "(internal/reflectlite.Value).IsNil", "internal/reflectlite.TypeOf", "(internal/reflectlite.Value).Elem", "(internal/reflectlite.Value).Set"], unfollowed := true, recurses := true, named := ["errors.errorType"], apart := false, laid := [("errors.errorType", laid_errors_errorType)] }
def TextNarrowsSaid : Prop := textNarrowsRow.holds Tryd.pinned (OpenSpec.ofChange textNarrowsSpec)

/-- ITS FALSE NEIGHBOUR: 'it returns false'. Refute it at one input. -/
def textNarrowsWrong : ChangeSpec := { name := "textNarrows", fn := fun _ => fun
  | [d1, d2] => { results := [.lit (.bool false)], args := [d1, d2] }
  | _ => none }
def TextNarrowsWrongFalsely : Prop := textNarrowsRow.holds Tryd.pinned (OpenSpec.ofChange textNarrowsWrong)

/-- 'escritoirelaw.TextEncodes': WHATEVER THE INPUT: true; the input reads as it did. -/
def textEncodesSpec : ChangeSpec := { name := "textEncodes", fn := fun _ => fun
  | [d1, d2] => { results := [.lit (.bool true)], args := [d1, d2] }
  | _ => none }
def textEncodesRow : OpenClaim := { program := "ytifnochpmlllgaadoor", sum := "84566573f32991d4672fc8e3546b26966033f42d69129f83215d5690cf53bfc0", func := "escritoire/escritoirelaw.TextEncodes", spec := "textEncodes", inPlace := ["internal/reflectlite.ValueOf", "(internal/reflectlite.Value).Type", "(internal/reflectlite.Value).IsNil", "internal/reflectlite.TypeOf", "(internal/reflectlite.Value).Elem", "(internal/reflectlite.Value).Set"], unfollowed := true, recurses := true, named := ["errors.errorType"], apart := false, laid := [("errors.errorType", laid_errors_errorType)] }
def TextEncodesSaid : Prop := textEncodesRow.holds Tryd.pinned (OpenSpec.ofChange textEncodesSpec)

/-- ITS FALSE NEIGHBOUR: 'it returns false'. Refute it at one input. -/
def textEncodesWrong : ChangeSpec := { name := "textEncodes", fn := fun _ => fun
  | [d1, d2] => { results := [.lit (.bool false)], args := [d1, d2] }
  | _ => none }
def TextEncodesWrongFalsely : Prop := textEncodesRow.holds Tryd.pinned (OpenSpec.ofChange textEncodesWrong)

/-- 'escritoirelaw.RealSteps': WHATEVER THE INPUT: true; the input reads as it did. -/
def realStepsSpec : ChangeSpec := { name := "realSteps", fn := fun _ => fun
  | [d1, d2] => { results := [.lit (.bool true)], args := [d1, d2] }
  | _ => none }
def realStepsRow : OpenClaim := { program := "ytifnochpmlllgaadoor", sum := "84566573f32991d4672fc8e3546b26966033f42d69129f83215d5690cf53bfc0", func := "escritoire/escritoirelaw.RealSteps", spec := "realSteps", inPlace := ["internal/reflectlite.ValueOf", "(internal/reflectlite.Value).Type", "(internal/reflectlite.Value).IsNil", "internal/reflectlite.TypeOf", "(internal/reflectlite.Value).Elem", "(internal/reflectlite.Value).Set"], unfollowed := true, recurses := true, named := ["errors.errorType"], apart := false, laid := [("errors.errorType", laid_errors_errorType)] }
def RealStepsSaid : Prop := realStepsRow.holds Tryd.pinned (OpenSpec.ofChange realStepsSpec)

/-- ITS FALSE NEIGHBOUR: 'it returns false'. Refute it at one input. -/
def realStepsWrong : ChangeSpec := { name := "realSteps", fn := fun _ => fun
  | [d1, d2] => { results := [.lit (.bool false)], args := [d1, d2] }
  | _ => none }
def RealStepsWrongFalsely : Prop := realStepsRow.holds Tryd.pinned (OpenSpec.ofChange realStepsWrong)

/-- 'escritoirelaw.SumsOf': WHATEVER THE INPUT: true; the input reads as it did. -/
def sumsOfSpec : ChangeSpec := { name := "sumsOf", fn := fun _ => fun
  | [d1, d2] => { results := [.lit (.bool true)], args := [d1, d2] }
  | _ => none }
def sumsOfRow : OpenClaim := { program := "ytifnochpmlllgaadoor", sum := "84566573f32991d4672fc8e3546b26966033f42d69129f83215d5690cf53bfc0", func := "escritoire/escritoirelaw.SumsOf", spec := "sumsOf", inPlace := ["internal/reflectlite.ValueOf", "(internal/reflectlite.Value).Type", "(internal/reflectlite.Value).IsNil", "internal/reflectlite.TypeOf", "(internal/reflectlite.Value).Elem", "(internal/reflectlite.Value).Set"], unfollowed := true, recurses := true, named := ["errors.errorType"], apart := false, laid := [("errors.errorType", laid_errors_errorType)] }
def SumsOfSaid : Prop := sumsOfRow.holds Tryd.pinned (OpenSpec.ofChange sumsOfSpec)

/-- ITS FALSE NEIGHBOUR: 'it returns false'. Refute it at one input. -/
def sumsOfWrong : ChangeSpec := { name := "sumsOf", fn := fun _ => fun
  | [d1, d2] => { results := [.lit (.bool false)], args := [d1, d2] }
  | _ => none }
def SumsOfWrongFalsely : Prop := sumsOfRow.holds Tryd.pinned (OpenSpec.ofChange sumsOfWrong)

/-- 'escritoirelaw.SumsForce': WHATEVER THE INPUT: true; the input reads as it did. -/
def sumsForceSpec : ChangeSpec := { name := "sumsForce", fn := fun _ => fun
  | [d1, d2, d3, d4] => { results := [.lit (.bool true)], args := [d1, d2, d3, d4] }
  | _ => none }
def sumsForceRow : OpenClaim := { program := "ytifnochpmlllgaadoor", sum := "84566573f32991d4672fc8e3546b26966033f42d69129f83215d5690cf53bfc0", func := "escritoire/escritoirelaw.SumsForce", spec := "sumsForce", inPlace := ["internal/reflectlite.ValueOf", "(internal/reflectlite.Value).Type", "(internal/reflectlite.Value).IsNil", "internal/reflectlite.TypeOf", "(internal/reflectlite.Value).Elem", "(internal/reflectlite.Value).Set"], unfollowed := true, recurses := true, named := ["errors.errorType"], apart := false, laid := [("errors.errorType", laid_errors_errorType)] }
def SumsForceSaid : Prop := sumsForceRow.holds Tryd.pinned (OpenSpec.ofChange sumsForceSpec)

/-- ITS FALSE NEIGHBOUR: 'it returns false'. Refute it at one input. -/
def sumsForceWrong : ChangeSpec := { name := "sumsForce", fn := fun _ => fun
  | [d1, d2, d3, d4] => { results := [.lit (.bool false)], args := [d1, d2, d3, d4] }
  | _ => none }
def SumsForceWrongFalsely : Prop := sumsForceRow.holds Tryd.pinned (OpenSpec.ofChange sumsForceWrong)

/-- 'escritoirelaw.FindLike': WHATEVER THE INPUT: true; the input reads as it did. -/
def findLikeSpec : ChangeSpec := { name := "findLike", fn := fun _ => fun
  | [d1, d2, d3] => { results := [.lit (.bool true)], args := [d1, d2, d3] }
  | _ => none }
def findLikeRow : OpenClaim := { program := "ytifnochpmlllgaadoor", sum := "84566573f32991d4672fc8e3546b26966033f42d69129f83215d5690cf53bfc0", func := "escritoire/escritoirelaw.FindLike", spec := "findLike", inPlace := ["internal/bytealg.IndexByteString", "internal/reflectlite.ValueOf", "(internal/reflectlite.Value).Type", "(internal/reflectlite.Value).IsNil", "internal/reflectlite.TypeOf", "(internal/reflectlite.Value).Elem", "(internal/reflectlite.Value).Set"], unfollowed := true, recurses := true, named := ["errors.errorType"], apart := false, laid := [("errors.errorType", laid_errors_errorType)] }
def FindLikeSaid : Prop := findLikeRow.holds Tryd.pinned (OpenSpec.ofChange findLikeSpec)

/-- ITS FALSE NEIGHBOUR: 'it returns false'. Refute it at one input. -/
def findLikeWrong : ChangeSpec := { name := "findLike", fn := fun _ => fun
  | [d1, d2, d3] => { results := [.lit (.bool false)], args := [d1, d2, d3] }
  | _ => none }
def FindLikeWrongFalsely : Prop := findLikeRow.holds Tryd.pinned (OpenSpec.ofChange findLikeWrong)

/-- 'escritoirelaw.FindAll': WHATEVER THE INPUT: true; the input reads as it did. -/
def findAllSpec : ChangeSpec := { name := "findAll", fn := fun _ => fun
  | [d1, d2, d3] => { results := [.lit (.bool true)], args := [d1, d2, d3] }
  | _ => none }
def findAllRow : OpenClaim := { program := "ytifnochpmlllgaadoor", sum := "84566573f32991d4672fc8e3546b26966033f42d69129f83215d5690cf53bfc0", func := "escritoire/escritoirelaw.FindAll", spec := "findAll", inPlace := ["internal/reflectlite.ValueOf", "(internal/reflectlite.Value).Type", "(internal/reflectlite.Value).IsNil", "internal/reflectlite.TypeOf", "(internal/reflectlite.Value).Elem", "(internal/reflectlite.Value).Set"], unfollowed := true, recurses := true, named := ["errors.errorType"], apart := false, laid := [("errors.errorType", laid_errors_errorType)] }
def FindAllSaid : Prop := findAllRow.holds Tryd.pinned (OpenSpec.ofChange findAllSpec)

/-- ITS FALSE NEIGHBOUR: 'it returns false'. Refute it at one input. -/
def findAllWrong : ChangeSpec := { name := "findAll", fn := fun _ => fun
  | [d1, d2, d3] => { results := [.lit (.bool false)], args := [d1, d2, d3] }
  | _ => none }
def FindAllWrongFalsely : Prop := findAllRow.holds Tryd.pinned (OpenSpec.ofChange findAllWrong)

/-- 'escritoirelaw.DiffApplies': WHATEVER THE INPUT: true; the input reads as it did. -/
def diffAppliesSpec : ChangeSpec := { name := "diffApplies", fn := fun _ => fun
  | [d1, d2] => { results := [.lit (.bool true)], args := [d1, d2] }
  | _ => none }
def diffAppliesRow : OpenClaim := { program := "ytifnochpmlllgaadoor", sum := "84566573f32991d4672fc8e3546b26966033f42d69129f83215d5690cf53bfc0", func := "escritoire/escritoirelaw.DiffApplies", spec := "diffApplies", inPlace := ["internal/abi.NoEscape", "internal/reflectlite.ValueOf", "(internal/reflectlite.Value).Type", "(internal/reflectlite.Value).IsNil", "internal/reflectlite.TypeOf", "(internal/reflectlite.Value).Elem", "(internal/reflectlite.Value).Set"], unfollowed := true, recurses := true, named := ["errors.errorType"], apart := false, laid := [("errors.errorType", laid_errors_errorType)] }
def DiffAppliesSaid : Prop := diffAppliesRow.holds Tryd.pinned (OpenSpec.ofChange diffAppliesSpec)

/-- ITS FALSE NEIGHBOUR: 'it returns false'. Refute it at one input. -/
def diffAppliesWrong : ChangeSpec := { name := "diffApplies", fn := fun _ => fun
  | [d1, d2] => { results := [.lit (.bool false)], args := [d1, d2] }
  | _ => none }
def DiffAppliesWrongFalsely : Prop := diffAppliesRow.holds Tryd.pinned (OpenSpec.ofChange diffAppliesWrong)

/- THE SECOND FORM. 'bulk': how many values and letters a reading holds, each counted each time it is reached (what is shared counts as often as it is met; a slice's spare places count too). A statement '..UptoSaid' is the law's where the arguments, and the package variables that the reading takes, are together of bulk at most 1048576: NARROWER than '..Said'. Prove '..Said' where nothing that the law and all that it calls make is longer than what came in: it says more and counts as full. Else prove '..UptoSaid'. A law counts once. -/
mutual
def uptoBulk {H : Type} : DataW H → Nat
  | .lit (.string bytes) => bytes.length + 1
  | .lit _ => 1
  | .nil => 1
  | .ptr d => uptoBulk d + 1
  | .slice elems spare => uptoBulkAll elems + uptoBulkAll spare + 1
  | .agg parts => uptoBulkAll parts + 1
  | .iface _ d => uptoBulk d + 1
  | .map entries => uptoBulkEntries entries + 1
  | .held _ => 1
def uptoBulkAll {H : Type} : List (DataW H) → Nat
  | [] => 0
  | d :: r => uptoBulk d + uptoBulkAll r
def uptoBulkEntries {H : Type} : List (Lit × DataW H) → Nat
  | [] => 0
  | x :: r => uptoBulkEntry x + uptoBulkEntries r
def uptoBulkEntry {H : Type} : Lit × DataW H → Nat
  | (.string bytes, d) => bytes.length + uptoBulk d + 1
  | (_, d) => uptoBulk d + 1
 end
def uptoSmall : (H : Type) → List (DataW H) → Bool := fun _ ds => decide (uptoBulkAll ds ≤ 1048576)
def OpenSpec.upto (s : _root_.Go.ChangeSpec) : _root_.Go.OpenSpec := { _root_.Go.OpenSpec.ofChange s with cond := some uptoSmall }

/-- 'escritoirelaw.DigitsPrints', WHERE WHAT IT READS IS OF BULK AT MOST 1048576: true; the input reads as it did. -/
def digitsPrintsUptoRow : OpenClaim := { program := "ytifnochpmlllgaadoor", sum := "84566573f32991d4672fc8e3546b26966033f42d69129f83215d5690cf53bfc0", func := "escritoire/escritoirelaw.DigitsPrints", spec := "digitsPrints", inPlace := ["internal/reflectlite.ValueOf", "(internal/reflectlite.Value).Type", "(internal/reflectlite.Value).IsNil", "internal/reflectlite.TypeOf", "(internal/reflectlite.Value).Elem", "(internal/reflectlite.Value).Set"], unfollowed := true, recurses := true, named := ["errors.errorType"], apart := false, laid := [("errors.errorType", laid_errors_errorType)], narrowed := true }
def DigitsPrintsUptoSaid : Prop := digitsPrintsUptoRow.holds Tryd.pinned (OpenSpec.upto digitsPrintsSpec)

/-- 'escritoirelaw.DigitsHex', WHERE WHAT IT READS IS OF BULK AT MOST 1048576: true; the input reads as it did. -/
def digitsHexUptoRow : OpenClaim := { program := "ytifnochpmlllgaadoor", sum := "84566573f32991d4672fc8e3546b26966033f42d69129f83215d5690cf53bfc0", func := "escritoire/escritoirelaw.DigitsHex", spec := "digitsHex", inPlace := ["internal/reflectlite.ValueOf", "(internal/reflectlite.Value).Type", "(internal/reflectlite.Value).IsNil", "internal/reflectlite.TypeOf", "(internal/reflectlite.Value).Elem", "(internal/reflectlite.Value).Set"], unfollowed := true, recurses := true, named := ["errors.errorType"], apart := false, laid := [("errors.errorType", laid_errors_errorType)], narrowed := true }
def DigitsHexUptoSaid : Prop := digitsHexUptoRow.holds Tryd.pinned (OpenSpec.upto digitsHexSpec)

/-- 'escritoirelaw.DigitsParses', WHERE WHAT IT READS IS OF BULK AT MOST 1048576: true; the input reads as it did. -/
def digitsParsesUptoRow : OpenClaim := { program := "ytifnochpmlllgaadoor", sum := "84566573f32991d4672fc8e3546b26966033f42d69129f83215d5690cf53bfc0", func := "escritoire/escritoirelaw.DigitsParses", spec := "digitsParses", inPlace := ["math/bits.Add64", "internal/reflectlite.ValueOf", "(internal/reflectlite.Value).Type", "(internal/reflectlite.Value).IsNil", "internal/reflectlite.TypeOf", "(internal/reflectlite.Value).Elem", "(internal/reflectlite.Value).Set"], unfollowed := true, recurses := true, named := ["errors.errorType"], apart := false, laid := [("errors.errorType", laid_errors_errorType)], narrowed := true }
def DigitsParsesUptoSaid : Prop := digitsParsesUptoRow.holds Tryd.pinned (OpenSpec.upto digitsParsesSpec)

/-- 'escritoirelaw.TextNarrows', WHERE WHAT IT READS IS OF BULK AT MOST 1048576: true; the input reads as it did. -/
def textNarrowsUptoRow : OpenClaim := { program := "ytifnochpmlllgaadoor", sum := "84566573f32991d4672fc8e3546b26966033f42d69129f83215d5690cf53bfc0", func := "escritoire/escritoirelaw.TextNarrows", spec := "textNarrows", inPlace := ["internal/reflectlite.ValueOf", "(internal/reflectlite.Value).Type", "(internal/reflectlite.Value).IsNil", "internal/reflectlite.TypeOf", "(internal/reflectlite.Value).Elem", "(internal/reflectlite.Value).Set"], unfollowed := true, recurses := true, named := ["errors.errorType"], apart := false, laid := [("errors.errorType", laid_errors_errorType)], narrowed := true }
def TextNarrowsUptoSaid : Prop := textNarrowsUptoRow.holds Tryd.pinned (OpenSpec.upto textNarrowsSpec)

/-- 'escritoirelaw.TextEncodes', WHERE WHAT IT READS IS OF BULK AT MOST 1048576: true; the input reads as it did. -/
def textEncodesUptoRow : OpenClaim := { program := "ytifnochpmlllgaadoor", sum := "84566573f32991d4672fc8e3546b26966033f42d69129f83215d5690cf53bfc0", func := "escritoire/escritoirelaw.TextEncodes", spec := "textEncodes", inPlace := ["internal/reflectlite.ValueOf", "(internal/reflectlite.Value).Type", "(internal/reflectlite.Value).IsNil", "internal/reflectlite.TypeOf", "(internal/reflectlite.Value).Elem", "(internal/reflectlite.Value).Set"], unfollowed := true, recurses := true, named := ["errors.errorType"], apart := false, laid := [("errors.errorType", laid_errors_errorType)], narrowed := true }
def TextEncodesUptoSaid : Prop := textEncodesUptoRow.holds Tryd.pinned (OpenSpec.upto textEncodesSpec)

/-- 'escritoirelaw.RealSteps', WHERE WHAT IT READS IS OF BULK AT MOST 1048576: true; the input reads as it did. -/
def realStepsUptoRow : OpenClaim := { program := "ytifnochpmlllgaadoor", sum := "84566573f32991d4672fc8e3546b26966033f42d69129f83215d5690cf53bfc0", func := "escritoire/escritoirelaw.RealSteps", spec := "realSteps", inPlace := ["internal/reflectlite.ValueOf", "(internal/reflectlite.Value).Type", "(internal/reflectlite.Value).IsNil", "internal/reflectlite.TypeOf", "(internal/reflectlite.Value).Elem", "(internal/reflectlite.Value).Set"], unfollowed := true, recurses := true, named := ["errors.errorType"], apart := false, laid := [("errors.errorType", laid_errors_errorType)], narrowed := true }
def RealStepsUptoSaid : Prop := realStepsUptoRow.holds Tryd.pinned (OpenSpec.upto realStepsSpec)

/-- 'escritoirelaw.SumsOf', WHERE WHAT IT READS IS OF BULK AT MOST 1048576: true; the input reads as it did. -/
def sumsOfUptoRow : OpenClaim := { program := "ytifnochpmlllgaadoor", sum := "84566573f32991d4672fc8e3546b26966033f42d69129f83215d5690cf53bfc0", func := "escritoire/escritoirelaw.SumsOf", spec := "sumsOf", inPlace := ["internal/reflectlite.ValueOf", "(internal/reflectlite.Value).Type", "(internal/reflectlite.Value).IsNil", "internal/reflectlite.TypeOf", "(internal/reflectlite.Value).Elem", "(internal/reflectlite.Value).Set"], unfollowed := true, recurses := true, named := ["errors.errorType"], apart := false, laid := [("errors.errorType", laid_errors_errorType)], narrowed := true }
def SumsOfUptoSaid : Prop := sumsOfUptoRow.holds Tryd.pinned (OpenSpec.upto sumsOfSpec)

/-- 'escritoirelaw.SumsForce', WHERE WHAT IT READS IS OF BULK AT MOST 1048576: true; the input reads as it did. -/
def sumsForceUptoRow : OpenClaim := { program := "ytifnochpmlllgaadoor", sum := "84566573f32991d4672fc8e3546b26966033f42d69129f83215d5690cf53bfc0", func := "escritoire/escritoirelaw.SumsForce", spec := "sumsForce", inPlace := ["internal/reflectlite.ValueOf", "(internal/reflectlite.Value).Type", "(internal/reflectlite.Value).IsNil", "internal/reflectlite.TypeOf", "(internal/reflectlite.Value).Elem", "(internal/reflectlite.Value).Set"], unfollowed := true, recurses := true, named := ["errors.errorType"], apart := false, laid := [("errors.errorType", laid_errors_errorType)], narrowed := true }
def SumsForceUptoSaid : Prop := sumsForceUptoRow.holds Tryd.pinned (OpenSpec.upto sumsForceSpec)

/-- 'escritoirelaw.FindLike', WHERE WHAT IT READS IS OF BULK AT MOST 1048576: true; the input reads as it did. -/
def findLikeUptoRow : OpenClaim := { program := "ytifnochpmlllgaadoor", sum := "84566573f32991d4672fc8e3546b26966033f42d69129f83215d5690cf53bfc0", func := "escritoire/escritoirelaw.FindLike", spec := "findLike", inPlace := ["internal/bytealg.IndexByteString", "internal/reflectlite.ValueOf", "(internal/reflectlite.Value).Type", "(internal/reflectlite.Value).IsNil", "internal/reflectlite.TypeOf", "(internal/reflectlite.Value).Elem", "(internal/reflectlite.Value).Set"], unfollowed := true, recurses := true, named := ["errors.errorType"], apart := false, laid := [("errors.errorType", laid_errors_errorType)], narrowed := true }
def FindLikeUptoSaid : Prop := findLikeUptoRow.holds Tryd.pinned (OpenSpec.upto findLikeSpec)

/-- 'escritoirelaw.FindAll', WHERE WHAT IT READS IS OF BULK AT MOST 1048576: true; the input reads as it did. -/
def findAllUptoRow : OpenClaim := { program := "ytifnochpmlllgaadoor", sum := "84566573f32991d4672fc8e3546b26966033f42d69129f83215d5690cf53bfc0", func := "escritoire/escritoirelaw.FindAll", spec := "findAll", inPlace := ["internal/reflectlite.ValueOf", "(internal/reflectlite.Value).Type", "(internal/reflectlite.Value).IsNil", "internal/reflectlite.TypeOf", "(internal/reflectlite.Value).Elem", "(internal/reflectlite.Value).Set"], unfollowed := true, recurses := true, named := ["errors.errorType"], apart := false, laid := [("errors.errorType", laid_errors_errorType)], narrowed := true }
def FindAllUptoSaid : Prop := findAllUptoRow.holds Tryd.pinned (OpenSpec.upto findAllSpec)

/-- 'escritoirelaw.DiffApplies', WHERE WHAT IT READS IS OF BULK AT MOST 1048576: true; the input reads as it did. -/
def diffAppliesUptoRow : OpenClaim := { program := "ytifnochpmlllgaadoor", sum := "84566573f32991d4672fc8e3546b26966033f42d69129f83215d5690cf53bfc0", func := "escritoire/escritoirelaw.DiffApplies", spec := "diffApplies", inPlace := ["internal/abi.NoEscape", "internal/reflectlite.ValueOf", "(internal/reflectlite.Value).Type", "(internal/reflectlite.Value).IsNil", "internal/reflectlite.TypeOf", "(internal/reflectlite.Value).Elem", "(internal/reflectlite.Value).Set"], unfollowed := true, recurses := true, named := ["errors.errorType"], apart := false, laid := [("errors.errorType", laid_errors_errorType)], narrowed := true }
def DiffAppliesUptoSaid : Prop := diffAppliesUptoRow.holds Tryd.pinned (OpenSpec.upto diffAppliesSpec)

end Rows
end Go.Proofs.YtifnochpmlllgaaDoor
