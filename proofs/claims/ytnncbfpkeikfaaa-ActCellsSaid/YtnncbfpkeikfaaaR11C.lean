/- ActCells: so many are put into a cell, and no more; moved there neither; within it they move: for every input. No condition. -/
import Derived.Test.YtnncbfpkeikfaaaDLaw11b
import Derived.Test.YtnncbfpkeikfaaaDLink11
import Derived.WalkKit
import Derived.Test.YtnncbfpkeikfaaaRows
namespace Go.Proofs.Ytnncbfpkeikfaaa.actCells
open Go Go.Proofs Go.Vw Go.Vw.Ev Go.ChangeShapes Go.WideShapes Go.ChangeAt Go.RowKit
set_option maxRecDepth 100000
set_option linter.unusedVariables false
theorem own : ownKnob Try.prog.godebug = none := by kernel_rfl
noncomputable section
theorem run_q (b : Cl → Int → Int → Int → Int → AH → (AV → AH → Bool) → Bool) (cl : Cl) (a0 : Int) (a1 : Int) (a2 : Int) (a3 : Int) (H : AH) (K : AV → AH → Bool) : PK.run [.int .u8, .int .u8, .int .u8, .int .u8] b cl [.s (.int .u8 a0), .s (.int .u8 a1), .s (.int .u8 a2), .s (.int .u8 a3)] H K = b cl a0 a1 a2 a3 H K := rfl
theorem walk : Walk Try.prog 3 Try.f3 := by
  intro H enc W base args ds p hval hA _
  rw [Try.params3] at hA hval
  obtain ⟨v0, vs0, d0, ds0, p0, q0, hargs, rfl, rfl, h0, r0⟩ := trodAll_cons hA
  obtain ⟨v1, vs1, d1, ds1, p1, q1, rfl, rfl, rfl, h1, r1⟩ := trodAll_cons r0
  obtain ⟨v2, vs2, d2, ds2, p2, q2, rfl, rfl, rfl, h2, r2⟩ := trodAll_cons r1
  obtain ⟨v3, vs3, d3, ds3, p3, q3, rfl, rfl, rfl, h3, r3⟩ := trodAll_cons r2
  obtain ⟨rfl, rfl, rfl⟩ := trodAll_nil r3
  obtain rfl : args = #[v0, v1, v2, v3] := by cases args; simp_all
  obtain ⟨a0, rfl, rfl, rfl, w0⟩ := open_int Try.underlying5 (hval 0 5 v0 rfl rfl) h0
  have b0 := bounds_u8 w0
  obtain ⟨a1, rfl, rfl, rfl, w1⟩ := open_int Try.underlying5 (hval 1 5 v1 rfl rfl) h1
  have b1 := bounds_u8 w1
  obtain ⟨a2, rfl, rfl, rfl, w2⟩ := open_int Try.underlying5 (hval 2 5 v2 rfl rfl) h2
  have b2 := bounds_u8 w2
  obtain ⟨a3, rfl, rfl, rfl, w3⟩ := open_int Try.underlying5 (hval 3 5 v3 rfl rfl) h3
  have b3 := bounds_u8 w3
  refine calls_of_okb (O_law11_ActCells LF W) (BT.call_ok (T_ok LF W) 40) (avs := [.s (.int .u8 a0), .s (.int .u8 a1), .s (.int .u8 a2), .s (.int .u8 a3)]) (vals := [.int .u8 a0, .int .u8 a1, .int .u8 a2, .int .u8 a3]) (⟨_, _, rfl, by simp [RV, RS], ⟨_, _, rfl, by simp [RV, RS], ⟨_, _, rfl, by simp [RV, RS], ⟨_, _, rfl, by simp [RV, RS], rfl⟩⟩⟩⟩) (RH.empty _) (view0 W) ?_
  rw [run_q]
  exact B_law11_ActCells_ (cl := (C 40)) lf1000 (cKnown (by omega)) (cTNew (by omega)) (cDo (by omega)) b0 b1 b2 b3
theorem lifted (os : Os) (started : os.Started) (H : Type) (enc : TypeId × Value → H) :
    ReturnsInHanded {} Try.checked os 3 .any (Rows.actCellsSpec.pre6 enc Try.prog Try.f3 Rows.actCellsRow.domain false) (Rows.actCellsSpec.post enc Try.prog Try.f3 false true false false) :=
  law_lifted (C := Try.checked) own started (by kernel_rfl) Try.func3
      (ChangeSpec.witness6 (enc := enc) (C := Try.checked) false ⟨#[], #[.int .u8 0, .int .u8 0, .int .u8 0, .int .u8 0], []⟩ 8 (by kernel_rfl) (by kernel_rfl) (by kernel_rfl) (by kernel_rfl))
      (by kernel_rfl) (by intro t ht; rw [Try.params3] at ht; simp at ht; subst ht; exact ⟨by kernel_rfl, by decide +kernel⟩) (tb := 4) rfl Try.underlying4 rfl
      (fun ds h => by match ds, h with | [_, _, _, _], _ => rfl) walk
theorem proved : Rows.ActCellsSaid :=
  OpenClaim.holds_of_wide 3 Try.f3 rfl rfl rfl rfl rfl rfl rfl ⟨rfl, rfl, rfl, rfl, rfl⟩ rfl rfl rfl rfl rfl (by kernel_rfl) Try.func3 (by kernel_rfl)
    (of_decide_eq_true (by kernel_rfl)) (by unfold Func.isWrapper; rw [if_neg (of_decide_eq_false (by kernel_rfl))]; exact ⟨rfl, rfl⟩)
    (fun os started H enc _ => lifted os started H enc)
end
end Go.Proofs.Ytnncbfpkeikfaaa.actCells
