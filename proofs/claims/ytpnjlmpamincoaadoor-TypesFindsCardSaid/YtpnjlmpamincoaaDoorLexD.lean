/-
  PROVED HERE: the contract of lex's next, at marks. Conditions: as each theorem states.
-/
import Derived.Test.YtpnjlmpamincoaaDoorLexC
namespace Go.Proofs.YtpnjlmpamincoaaDoor.Lex
open Go.RowKit
end Go.Proofs.YtpnjlmpamincoaaDoor.Lex
