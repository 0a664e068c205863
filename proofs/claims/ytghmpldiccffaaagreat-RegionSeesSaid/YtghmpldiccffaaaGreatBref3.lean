import Derived.Test.YtghmpldiccffaaaGreatBQ
namespace Go.Proofs
open Go Go.Vw Go.Vw.Ev
set_option maxRecDepth 100000
set_option maxHeartbeats 4000000
set_option linter.unusedVariables false
noncomputable section
def B_ref3_In (lf : Nat) (cl : Cl) (q0 : List AS) (q1 : List AS) (H : AH) (K : AV → AH → Bool) : Bool :=
 newK H (.row q0) fun g1 h2 => newK h2 (.row q1) fun g3 h4 => rowK h4 g1 fun cs5 => ldI cs5 0 .i64 fun n6 => rowK h4 g3 fun cs7 => ldI cs7 0 .i64 fun n8 => fB (iLe n6 n8) fun b9 => ifA b9 (rowK h4 g3 fun cs10 => ldI cs10 0 .i64 fun n11 => rowK h4 g1 fun cs12 => ldI cs12 2 .i64 fun n13 => fB (iLt n11 n13) fun b14 => ifA b14 (rowK h4 g1 fun cs15 => ldI cs15 1 .i64 fun n16 => rowK h4 g3 fun cs17 => ldI cs17 1 .i64 fun n18 => fB (iLe n16 n18) fun b19 => ifA b19 (rowK h4 g3 fun cs20 => ldI cs20 1 .i64 fun n21 => rowK h4 g1 fun cs22 => ldI cs22 3 .i64 fun n23 => fB (iLt n21 n23) fun b24 => K (AV.s (AS.bool b24)) h4) (K (AV.s (AS.bool false)) h4)) (K (AV.s (AS.bool false)) h4)) (K (AV.s (AS.bool false)) h4)
theorem E_ref3_In (lf : Nat) (cl : Cl) : PK.Eq [.agg, .agg] (evFn PG cl noL noR noJ lf Tryz.f50) (B_ref3_In lf cl) := by intro q0 q1 H K; kernel_rfl
theorem O_ref3_In (lf : Nat) (w0 : World) : OkB PG w0 i_ref3_In (PK.run [.agg, .agg] (B_ref3_In lf)) := okb mix (fn := Tryz.f50) rfl (E_ref3_In lf)
end
end Go.Proofs
