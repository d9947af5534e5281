/-
  PROVED HERE: the contract of the document's fullCmd. Conditions: as each theorem states.
-/
import Derived.Test.YtifnochpmlllgaaKeyF0
import Derived.Test.YtifnochpmlllgaaKeyF1
import Derived.Test.YtifnochpmlllgaaKeyF2
import Derived.Test.YtifnochpmlllgaaKeyF3
namespace Go.Proofs.Ytifnochpmlllgaa.Key
open Go.RowKit
theorem fullCmd_any (s : ByteArray) (hs : s.size ≤ 1000) (W : World) : Calls Try.prog 8 #[.string s] W (FP s W) := by
  rcases cls_lt s with h | h | h | h
  · exact fullCmd_0 s hs h W
  · exact fullCmd_1 s hs h W
  · exact fullCmd_2 s hs h W
  · exact fullCmd_3 s hs h W
end Go.Proofs.Ytifnochpmlllgaa.Key
