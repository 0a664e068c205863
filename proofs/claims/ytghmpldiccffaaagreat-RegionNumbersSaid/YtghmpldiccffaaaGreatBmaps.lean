import Derived.Test.YtghmpldiccffaaaGreatBQ
namespace Go.Proofs
open Go Go.Vw Go.Vw.Ev
set_option maxRecDepth 100000
set_option maxHeartbeats 4000000
set_option linter.unusedVariables false
noncomputable section
/-- maps.Keys[map[int]vedette/api.Thing,int,vedette/api.Thing] -/
def B_maps_Keys_int_Thing (lf : Nat) (cl : Cl) (q0 : Option Pn) (H : AH) (K : AV → AH → Bool) : Bool :=
  newK H (.row [AS.map q0]) fun g1 h2 => K (AV.s (AS.func i_maps_Keys_int_Thing_1 [] [AS.ptr (.at g1 0)])) h2
theorem E_maps_Keys_int_Thing (lf : Nat) (cl : Cl) : PK.Eq [.map] (evFn PG cl noL noR noJ lf Tryz.f68) (B_maps_Keys_int_Thing lf cl) := by intro q0 H K; kernel_rfl
theorem O_maps_Keys_int_Thing (lf : Nat) (w0 : World) : OkB PG w0 i_maps_Keys_int_Thing (PK.run [.map] (B_maps_Keys_int_Thing lf)) := okb mix (fn := Tryz.f68) rfl (E_maps_Keys_int_Thing lf)

end
end Go.Proofs
