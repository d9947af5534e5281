/-
  No cell of these rows narrows 'for every input' (looked for: loops, veiled, ifaces, maps, wideKeys, modest, calm, conditions, laid).
  DERIVED. THE GIVEN ROWS OF THIS SEAT. 5 by the template 'for every input the law returns true; each argument reads behind the call as it read before'; 0 by the template 'total and deterministic' (their statements: YtebjccenlfhilaaTotals.lean).
  GIVEN WITH THE SEED: the statements are not yours to turn. If you find one false, say at which input.
  Laid BY PROGRAM, IN A SANDBOX (cutbox-rows.mjs): the forced cells as the released guide's own fill.sh prints them over the translation 85681f5424d22bcc… (all of the seat's roots in one cut). By AI agents, Wed Nov 11 2026. No macro, syntax, notation, axiom, sorry.
-/
import Derived.Test.YtebjccenlfhilaaChecked
import GoSem.Claim
import GoSem.ClaimJoined
import GoSem.ClaimMapViews
import Derived.JoinedTies
import Derived.KernelRfl
namespace Go.Proofs.Ytebjccenlfhilaa
/- THE CELL 'sum', in the pinned program and in every row, IS THE sha256 OF THE DUMP (.gsa) THAT YtebjccenlfhilaaProg.lean LOADS. Nothing in Lean hashes anything: it is a label: what it is worth is what the hold of that sum in a sandbox is worth. -/
noncomputable def Try.pinned : Pinned := { name := "ytebjccenlfhilaa", sum := "85681f5424d22bcccd0186ba75ed3003c788ab8b57d99594df65b4c0a013376a", checked := Try.checked }
namespace Rows
def none {H : Type} : Left H := { results := [], args := [] }

/-- 'escritoirelaw.SumsPairs': WHATEVER THE INPUT: true; the input reads as it did. -/
def sumsPairsSpec : ChangeSpec := { name := "sumsPairs", fn := fun _ => fun
  | [d] => { results := [.lit (.bool true)], args := [d] }
  | _ => none }
def sumsPairsRow : OpenClaim := { program := "ytebjccenlfhilaa", sum := "85681f5424d22bcccd0186ba75ed3003c788ab8b57d99594df65b4c0a013376a", func := "escritoire/escritoirelaw.SumsPairs", spec := "sumsPairs", apart := false }
def SumsPairsSaid : Prop := sumsPairsRow.holds Try.pinned (OpenSpec.ofChange sumsPairsSpec)

/-- ITS FALSE NEIGHBOUR: 'it returns false'. Refute it at one input. -/
def sumsPairsWrong : ChangeSpec := { name := "sumsPairs", fn := fun _ => fun
  | [d] => { results := [.lit (.bool false)], args := [d] }
  | _ => none }
def SumsPairsWrongFalsely : Prop := sumsPairsRow.holds Try.pinned (OpenSpec.ofChange sumsPairsWrong)

/-- 'escritoirelaw.WordSigns': WHATEVER THE INPUT: true; the input reads as it did. -/
def wordSignsSpec : ChangeSpec := { name := "wordSigns", fn := fun _ => fun
  | [d1, d2, d3] => { results := [.lit (.bool true)], args := [d1, d2, d3] }
  | _ => none }
def wordSignsRow : OpenClaim := { program := "ytebjccenlfhilaa", sum := "85681f5424d22bcccd0186ba75ed3003c788ab8b57d99594df65b4c0a013376a", func := "escritoire/escritoirelaw.WordSigns", spec := "wordSigns", apart := false }
def WordSignsSaid : Prop := wordSignsRow.holds Try.pinned (OpenSpec.ofChange wordSignsSpec)

/-- ITS FALSE NEIGHBOUR: 'it returns false'. Refute it at one input. -/
def wordSignsWrong : ChangeSpec := { name := "wordSigns", fn := fun _ => fun
  | [d1, d2, d3] => { results := [.lit (.bool false)], args := [d1, d2, d3] }
  | _ => none }
def WordSignsWrongFalsely : Prop := wordSignsRow.holds Try.pinned (OpenSpec.ofChange wordSignsWrong)

/-- 'escritoirelaw.BitsTurns': WHATEVER THE INPUT: true; the input reads as it did. -/
def bitsTurnsSpec : ChangeSpec := { name := "bitsTurns", fn := fun _ => fun
  | [d1, d2] => { results := [.lit (.bool true)], args := [d1, d2] }
  | _ => none }
def bitsTurnsRow : OpenClaim := { program := "ytebjccenlfhilaa", sum := "85681f5424d22bcccd0186ba75ed3003c788ab8b57d99594df65b4c0a013376a", func := "escritoire/escritoirelaw.BitsTurns", spec := "bitsTurns", apart := false }
def BitsTurnsSaid : Prop := bitsTurnsRow.holds Try.pinned (OpenSpec.ofChange bitsTurnsSpec)

/-- ITS FALSE NEIGHBOUR: 'it returns false'. Refute it at one input. -/
def bitsTurnsWrong : ChangeSpec := { name := "bitsTurns", fn := fun _ => fun
  | [d1, d2] => { results := [.lit (.bool false)], args := [d1, d2] }
  | _ => none }
def BitsTurnsWrongFalsely : Prop := bitsTurnsRow.holds Try.pinned (OpenSpec.ofChange bitsTurnsWrong)

/-- 'escritoirelaw.RealWidens': WHATEVER THE INPUT: true; the input reads as it did. -/
def realWidensSpec : ChangeSpec := { name := "realWidens", fn := fun _ => fun
  | [d] => { results := [.lit (.bool true)], args := [d] }
  | _ => none }
def realWidensRow : OpenClaim := { program := "ytebjccenlfhilaa", sum := "85681f5424d22bcccd0186ba75ed3003c788ab8b57d99594df65b4c0a013376a", func := "escritoire/escritoirelaw.RealWidens", spec := "realWidens", apart := false }
def RealWidensSaid : Prop := realWidensRow.holds Try.pinned (OpenSpec.ofChange realWidensSpec)

/-- ITS FALSE NEIGHBOUR: 'it returns false'. Refute it at one input. -/
def realWidensWrong : ChangeSpec := { name := "realWidens", fn := fun _ => fun
  | [d] => { results := [.lit (.bool false)], args := [d] }
  | _ => none }
def RealWidensWrongFalsely : Prop := realWidensRow.holds Try.pinned (OpenSpec.ofChange realWidensWrong)

/-- 'escritoirelaw.RealNarrows': WHATEVER THE INPUT: true; the input reads as it did. -/
def realNarrowsSpec : ChangeSpec := { name := "realNarrows", fn := fun _ => fun
  | [d] => { results := [.lit (.bool true)], args := [d] }
  | _ => none }
def realNarrowsRow : OpenClaim := { program := "ytebjccenlfhilaa", sum := "85681f5424d22bcccd0186ba75ed3003c788ab8b57d99594df65b4c0a013376a", func := "escritoire/escritoirelaw.RealNarrows", spec := "realNarrows", inPlace := ["math/bits.Sub64"], apart := false }
def RealNarrowsSaid : Prop := realNarrowsRow.holds Try.pinned (OpenSpec.ofChange realNarrowsSpec)

/-- ITS FALSE NEIGHBOUR: 'it returns false'. Refute it at one input. -/
def realNarrowsWrong : ChangeSpec := { name := "realNarrows", fn := fun _ => fun
  | [d] => { results := [.lit (.bool false)], args := [d] }
  | _ => none }
def RealNarrowsWrongFalsely : Prop := realNarrowsRow.holds Try.pinned (OpenSpec.ofChange realNarrowsWrong)

/- THE SECOND FORM. 'bulk': how many values and letters a reading holds, each counted each time it is reached (what is shared counts as often as it is met; a slice's spare places count too). A statement '..UptoSaid' is the law's where the arguments, and the package variables that the reading takes, are together of bulk at most 1048576: NARROWER than '..Said'. Prove '..Said' where nothing that the law and all that it calls make is longer than what came in: it says more and counts as full. Else prove '..UptoSaid'. A law counts once. -/
mutual
def uptoBulk {H : Type} : DataW H → Nat
  | .lit (.string bytes) => bytes.length + 1
  | .lit _ => 1
  | .nil => 1
  | .ptr d => uptoBulk d + 1
  | .slice elems spare => uptoBulkAll elems + uptoBulkAll spare + 1
  | .agg parts => uptoBulkAll parts + 1
  | .iface _ d => uptoBulk d + 1
  | .map entries => uptoBulkEntries entries + 1
  | .held _ => 1
def uptoBulkAll {H : Type} : List (DataW H) → Nat
  | [] => 0
  | d :: r => uptoBulk d + uptoBulkAll r
def uptoBulkEntries {H : Type} : List (Lit × DataW H) → Nat
  | [] => 0
  | x :: r => uptoBulkEntry x + uptoBulkEntries r
def uptoBulkEntry {H : Type} : Lit × DataW H → Nat
  | (.string bytes, d) => bytes.length + uptoBulk d + 1
  | (_, d) => uptoBulk d + 1
 end
def uptoSmall : (H : Type) → List (DataW H) → Bool := fun _ ds => decide (uptoBulkAll ds ≤ 1048576)
def OpenSpec.upto (s : _root_.Go.ChangeSpec) : _root_.Go.OpenSpec := { _root_.Go.OpenSpec.ofChange s with cond := some uptoSmall }

/-- 'escritoirelaw.SumsPairs', WHERE WHAT IT READS IS OF BULK AT MOST 1048576: true; the input reads as it did. -/
def sumsPairsUptoRow : OpenClaim := { program := "ytebjccenlfhilaa", sum := "85681f5424d22bcccd0186ba75ed3003c788ab8b57d99594df65b4c0a013376a", func := "escritoire/escritoirelaw.SumsPairs", spec := "sumsPairs", apart := false, narrowed := true }
def SumsPairsUptoSaid : Prop := sumsPairsUptoRow.holds Try.pinned (OpenSpec.upto sumsPairsSpec)

/-- 'escritoirelaw.WordSigns', WHERE WHAT IT READS IS OF BULK AT MOST 1048576: true; the input reads as it did. -/
def wordSignsUptoRow : OpenClaim := { program := "ytebjccenlfhilaa", sum := "85681f5424d22bcccd0186ba75ed3003c788ab8b57d99594df65b4c0a013376a", func := "escritoire/escritoirelaw.WordSigns", spec := "wordSigns", apart := false, narrowed := true }
def WordSignsUptoSaid : Prop := wordSignsUptoRow.holds Try.pinned (OpenSpec.upto wordSignsSpec)

/-- 'escritoirelaw.BitsTurns', WHERE WHAT IT READS IS OF BULK AT MOST 1048576: true; the input reads as it did. -/
def bitsTurnsUptoRow : OpenClaim := { program := "ytebjccenlfhilaa", sum := "85681f5424d22bcccd0186ba75ed3003c788ab8b57d99594df65b4c0a013376a", func := "escritoire/escritoirelaw.BitsTurns", spec := "bitsTurns", apart := false, narrowed := true }
def BitsTurnsUptoSaid : Prop := bitsTurnsUptoRow.holds Try.pinned (OpenSpec.upto bitsTurnsSpec)

/-- 'escritoirelaw.RealWidens', WHERE WHAT IT READS IS OF BULK AT MOST 1048576: true; the input reads as it did. -/
def realWidensUptoRow : OpenClaim := { program := "ytebjccenlfhilaa", sum := "85681f5424d22bcccd0186ba75ed3003c788ab8b57d99594df65b4c0a013376a", func := "escritoire/escritoirelaw.RealWidens", spec := "realWidens", apart := false, narrowed := true }
def RealWidensUptoSaid : Prop := realWidensUptoRow.holds Try.pinned (OpenSpec.upto realWidensSpec)

/-- 'escritoirelaw.RealNarrows', WHERE WHAT IT READS IS OF BULK AT MOST 1048576: true; the input reads as it did. -/
def realNarrowsUptoRow : OpenClaim := { program := "ytebjccenlfhilaa", sum := "85681f5424d22bcccd0186ba75ed3003c788ab8b57d99594df65b4c0a013376a", func := "escritoire/escritoirelaw.RealNarrows", spec := "realNarrows", inPlace := ["math/bits.Sub64"], apart := false, narrowed := true }
def RealNarrowsUptoSaid : Prop := realNarrowsUptoRow.holds Try.pinned (OpenSpec.upto realNarrowsSpec)

end Rows
end Go.Proofs.Ytebjccenlfhilaa
