/- QuadFull: a full tree takes no more, and takes one again when one went: for every input. No condition. -/
import Derived.Test.YtplfaoobmdgiaaaDLaw8a
import Derived.Test.YtplfaoobmdgiaaaDLink8
import Derived.WalkKit
import Derived.Test.YtplfaoobmdgiaaaRows
namespace Go.Proofs.Ytplfaoobmdgiaaa.quadFull
open Go Go.Proofs Go.Vw Go.Vw.Ev Go.ChangeShapes Go.WideShapes Go.ChangeAt Go.RowKit
set_option maxRecDepth 100000
set_option linter.unusedVariables false
theorem own : ownKnob Try.prog.godebug = none := by kernel_rfl
noncomputable section
theorem run_q (b : Cl → Int → Int → AH → (AV → AH → Bool) → Bool) (cl : Cl) (a0 : Int) (a1 : Int) (H : AH) (K : AV → AH → Bool) : PK.run [.int .u8, .int .u16] b cl [.s (.int .u8 a0), .s (.int .u16 a1)] H K = b cl a0 a1 H K := rfl
theorem walk : Walk Try.prog 5 Try.f5 := by
  intro H enc W base args ds p hval hA _
  rw [Try.params5] at hA hval
  obtain ⟨v0, vs0, d0, ds0, p0, q0, hargs, rfl, rfl, h0, r0⟩ := trodAll_cons hA
  obtain ⟨v1, vs1, d1, ds1, p1, q1, rfl, rfl, rfl, h1, r1⟩ := trodAll_cons r0
  obtain ⟨rfl, rfl, rfl⟩ := trodAll_nil r1
  obtain rfl : args = #[v0, v1] := by cases args; simp_all
  obtain ⟨a0, rfl, rfl, rfl, w0⟩ := open_int Try.underlying5 (hval 0 5 v0 rfl rfl) h0
  obtain ⟨a1, rfl, rfl, rfl, w1⟩ := open_int Try.underlying54 (hval 1 54 v1 rfl rfl) h1
  have b0 := bounds_u8 w0
  have b1 := bounds_u16 w1
  refine calls_of_okb (O_law8_QuadFull LF W) (BT.call_ok (T_ok LF W) 40) (avs := [.s (.int .u8 a0), .s (.int .u16 a1)]) (vals := [.int .u8 a0, .int .u16 a1]) (by simp [RVL, RV, RS]) (RH.empty _) (view0 W) ?_
  rw [run_q]
  exact B_law8_QuadFull_ (cl := (C 40)) lf1000 (cKnown8 (by omega)) (cNewQ (by omega)) (cPut (by omega)) (cDrop (by omega)) (cLen (by omega)) (cInT (by omega)) b0 b1
theorem lifted (os : Os) (started : os.Started) (H : Type) (enc : TypeId × Value → H) :
    ReturnsInHanded {} Try.checked os 5 .any (Rows.quadFullSpec.pre6 enc Try.prog Try.f5 Rows.quadFullRow.domain false) (Rows.quadFullSpec.post enc Try.prog Try.f5 false true false false) :=
  law_lifted (C := Try.checked) own started (by kernel_rfl) Try.func5
      (ChangeSpec.witness6 (enc := enc) (C := Try.checked) false ⟨#[], #[.int .u8 0, .int .u16 0], []⟩ 8 (by kernel_rfl) (by kernel_rfl) (by kernel_rfl) (by kernel_rfl))
      (by kernel_rfl) (by intro t ht; rw [Try.params5] at ht; simp at ht; rcases ht with rfl | rfl <;> exact ⟨by kernel_rfl, by decide +kernel⟩) (tb := 4) rfl Try.underlying4 rfl
      (fun ds h => by match ds, h with | [_, _], _ => rfl) walk
theorem proved : Rows.QuadFullSaid :=
  OpenClaim.holds_of_wide 5 Try.f5 rfl rfl rfl rfl rfl rfl rfl ⟨rfl, rfl, rfl, rfl, rfl⟩ rfl rfl rfl rfl rfl (by kernel_rfl) Try.func5 (by kernel_rfl)
    (of_decide_eq_true (by kernel_rfl)) (by unfold Func.isWrapper; rw [if_neg (of_decide_eq_false (by kernel_rfl))]; exact ⟨rfl, rfl⟩)
    (fun os started H enc _ => lifted os started H enc)
end
end Go.Proofs.Ytplfaoobmdgiaaa.quadFull
