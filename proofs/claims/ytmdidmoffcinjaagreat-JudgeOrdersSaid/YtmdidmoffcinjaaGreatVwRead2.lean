/- Two slices that come in. -/
import Derived.Test.YtmdidmoffcinjaaGreatVwRead
namespace Go.Vw.Ev
open Go Go.Vw Go.ChangeShapes Go.WideShapes Go.RowKit
section
variable {H : Type}
end
end Go.Vw.Ev
