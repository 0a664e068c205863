/- maps.Clone of a map with whole numbers for keys. -/
import Derived.Test.YtmdidmoffcinjaaGreatVwKeys
import Derived.Test.YtmdidmoffcinjaaGreatVwMono
namespace Go.Vw.Ev
open Go Go.Vw
set_option linter.unusedVariables false
section
variable {P : Program} {w0 : World}
end
end Go.Vw.Ev
