/-
  PROVED HERE: the contract of lex's next, at marks. Conditions: as each theorem states.
-/
import Derived.Test.YtpnjlmpamincoaaLexC
namespace Go.Proofs.Ytpnjlmpamincoaa.Lex
open Go.RowKit
end Go.Proofs.Ytpnjlmpamincoaa.Lex
