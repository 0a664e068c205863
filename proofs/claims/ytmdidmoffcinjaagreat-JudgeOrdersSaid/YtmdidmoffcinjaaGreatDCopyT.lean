/- Copies: of the tree, the table. -/
import Derived.Test.YtmdidmoffcinjaaGreatDT
import Derived.Test.YtmdidmoffcinjaaGreatVwClone
namespace Go.Proofs
open Go Go.Vw Go.Vw.Ev
set_option linter.unusedVariables false
set_option linter.unusedSimpArgs false
end Go.Proofs
