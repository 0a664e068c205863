import Derived.Test.YtnncbfpkeikfaaaVwClone
import Derived.Test.YtnncbfpkeikfaaaCloneR11L
import Derived.KernelRfl
import Derived.Test.YtnncbfpkeikfaaaChecked
namespace Go.Proofs
open Go Go.Vw Go.Vw.Ev Go.RowKit Go.Maps Go.Shelf
set_option maxRecDepth 100000
set_option linter.unusedVariables false
theorem okClone58 (w0 : World) : OkB Try.prog w0 58 cloneB := okb_clone (fun b es clock w h => AnyW.maps_Clone Try.clone58 b es clock w h) (fun w => AnyW.maps_Clone_nil Try.clone58 w)
end Go.Proofs
