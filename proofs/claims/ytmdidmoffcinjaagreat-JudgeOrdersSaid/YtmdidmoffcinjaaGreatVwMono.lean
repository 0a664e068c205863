/- What is true with a continuation is true with one that is true oftener: for every word of the evaluator, for a function's body, for calls. -/
import Derived.Test.YtmdidmoffcinjaaGreatVwDed
import Derived.Test.YtmdidmoffcinjaaGreatVwKeys
namespace Go.Vw.Ev
open Go Go.Vw
set_option linter.unusedVariables false
set_option maxHeartbeats 4000000
end Go.Vw.Ev
