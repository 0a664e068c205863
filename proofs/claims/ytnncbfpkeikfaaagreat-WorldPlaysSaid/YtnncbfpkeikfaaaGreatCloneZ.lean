import Derived.Test.YtnncbfpkeikfaaaGreatVwClone
import Derived.Test.YtnncbfpkeikfaaaGreatCloneZL
import Derived.KernelRfl
import Derived.Test.YtnncbfpkeikfaaaGreatChecked
namespace Go.Proofs
open Go Go.Vw Go.Vw.Ev Go.RowKit Go.Maps Go.Shelf
set_option maxRecDepth 100000
set_option linter.unusedVariables false
theorem okClone69 (w0 : World) : OkB Tryz.prog w0 69 cloneB := okb_clone (fun b es clock w h => AnyW.maps_Clone Tryz.clone69 b es clock w h) (fun w => AnyW.maps_Clone_nil Tryz.clone69 w)
end Go.Proofs
