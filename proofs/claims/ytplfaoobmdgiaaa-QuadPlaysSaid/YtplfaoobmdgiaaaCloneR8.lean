import Derived.Test.YtplfaoobmdgiaaaVwClone
import Derived.Test.YtplfaoobmdgiaaaCloneR8L
import Derived.KernelRfl
import Derived.Test.YtplfaoobmdgiaaaChecked
namespace Go.Proofs
open Go Go.Vw Go.Vw.Ev Go.RowKit Go.Maps Go.Shelf
set_option maxRecDepth 100000
set_option linter.unusedVariables false
theorem okClone66 (w0 : World) : OkB Try.prog w0 66 cloneB := okb_clone (fun b es clock w h => AnyW.maps_Clone Try.clone66 b es clock w h) (fun w => AnyW.maps_Clone_nil Try.clone66 w)
end Go.Proofs
