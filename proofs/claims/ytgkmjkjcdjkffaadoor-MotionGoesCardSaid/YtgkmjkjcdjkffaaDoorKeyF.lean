/-
  PROVED HERE: the contract of the document's fullCmd. Conditions: as each theorem states.
-/
import Derived.Test.YtgkmjkjcdjkffaaDoorKeyF0
import Derived.Test.YtgkmjkjcdjkffaaDoorKeyF1
import Derived.Test.YtgkmjkjcdjkffaaDoorKeyF2
import Derived.Test.YtgkmjkjcdjkffaaDoorKeyF3
namespace Go.Proofs.YtgkmjkjcdjkffaaDoor.Key
open Go.RowKit
theorem fullCmd_any (s : ByteArray) (hs : s.size ≤ 1000) (W : World) : Calls Tryd.prog 11 #[.string s] W (FP s W) := by
  rcases cls_lt s with h | h | h | h
  · exact fullCmd_0 s hs h W
  · exact fullCmd_1 s hs h W
  · exact fullCmd_2 s hs h W
  · exact fullCmd_3 s hs h W
end Go.Proofs.YtgkmjkjcdjkffaaDoor.Key
