import Derived.Test.YtmdidmoffcinjaaGreatBQ
namespace Go.Proofs
open Go Go.Vw Go.Vw.Ev
set_option maxRecDepth 100000
set_option maxHeartbeats 4000000
set_option linter.unusedVariables false
noncomputable section
end
end Go.Proofs
