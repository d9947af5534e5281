/-
  PROVED HERE: the contract of keys' Parse. Conditions: as each theorem states.
-/
import Derived.Test.YtifnochpmlllgaaKeyS0
import Derived.Test.YtifnochpmlllgaaKeyS1
import Derived.Test.YtifnochpmlllgaaKeyS2
import Derived.Test.YtifnochpmlllgaaKeyS3
import Derived.Test.YtifnochpmlllgaaKeyS4
namespace Go.Proofs.Ytifnochpmlllgaa.Key
open Go.RowKit
theorem parse_any (s : ByteArray) (hs : s.size ≤ 500) (W : World) : Calls Try.prog 5 #[.string s] W (KP s W) := by
  by_cases h : Pre s
  · rcases classes s with c | c | c | c
    · exact parse_1 s hs h c W
    · exact parse_2 s hs h c W
    · exact parse_3 s hs h c W
    · exact parse_4 s hs h c W
  · exact parse_0 s hs h W
end Go.Proofs.Ytifnochpmlllgaa.Key
