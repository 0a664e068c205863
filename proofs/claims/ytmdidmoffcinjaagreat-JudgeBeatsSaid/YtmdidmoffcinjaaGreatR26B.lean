/- JudgeBeats: the world grows beat by beat as commands come; what joins is seen from the beat behind: for every input. No condition. -/
import Derived.Test.YtmdidmoffcinjaaGreatDJ
import Derived.Test.YtmdidmoffcinjaaGreatDLink26b
import Derived.WalkKit
import Derived.Test.YtmdidmoffcinjaaGreatRows
namespace Go.Proofs.YtmdidmoffcinjaaGreat.judgeBeats
open Go Go.Proofs Go.Vw Go.Vw.Ev Go.ChangeShapes Go.WideShapes Go.ChangeAt Go.RowKit
set_option maxRecDepth 100000
set_option linter.unusedVariables false
theorem own : ownKnob Tryz.prog.godebug = none := by kernel_rfl
noncomputable section
theorem run_q (b : Cl → Int → Int → AH → (AV → AH → Bool) → Bool) (cl : Cl) (a0 : Int) (a1 : Int) (H : AH) (K : AV → AH → Bool) : PK.run [.int .u8, .int .u8] b cl [.s (.int .u8 a0), .s (.int .u8 a1)] H K = b cl a0 a1 H K := rfl
theorem walk : Walk Tryz.prog 4 Tryz.f4 := by
  intro H enc W base args ds p hval hA _
  rw [Tryz.params4] at hA hval
  obtain ⟨v0, vs0, d0, ds0, p0, q0, hargs, rfl, rfl, h0, r0⟩ := trodAll_cons hA
  obtain ⟨v1, vs1, d1, ds1, p1, q1, rfl, rfl, rfl, h1, r1⟩ := trodAll_cons r0
  obtain ⟨rfl, rfl, rfl⟩ := trodAll_nil r1
  obtain rfl : args = #[v0, v1] := by cases args; simp_all
  obtain ⟨a0, rfl, rfl, rfl, w0⟩ := open_int Tryz.underlying5 (hval 0 5 v0 rfl rfl) h0
  have b0 := bounds_u8 w0
  obtain ⟨a1, rfl, rfl, rfl, w1⟩ := open_int Tryz.underlying5 (hval 1 5 v1 rfl rfl) h1
  have b1 := bounds_u8 w1
  refine calls_of_okb (O_law26_JudgeBeats LF W) (BT.call_ok (T_ok LF W) 40) (avs := [.s (.int .u8 a0), .s (.int .u8 a1)]) (vals := [.int .u8 a0, .int .u8 a1]) (⟨_, _, rfl, by simp [RV, RS], ⟨_, _, rfl, by simp [RV, RS], rfl⟩⟩) (RH.empty _) (view0 W) ?_
  rw [run_q]
  exact B_law26_JudgeBeats_ (cl := (C 40)) lf1000 (cKnown (by omega)) (cJRect (by omega)) (cJWorld (by omega)) b0 b1
theorem lifted (os : Os) (started : os.Started) (H : Type) (enc : TypeId × Value → H) :
    ReturnsInHanded {} Tryz.checked os 4 .any (Rows.judgeBeatsSpec.pre6 enc Tryz.prog Tryz.f4 Rows.judgeBeatsRow.domain false) (Rows.judgeBeatsSpec.post enc Tryz.prog Tryz.f4 false true false false) :=
  law_lifted (C := Tryz.checked) own started (by kernel_rfl) Tryz.func4
      (ChangeSpec.witness6 (enc := enc) (C := Tryz.checked) false ⟨#[], #[.int .u8 0, .int .u8 0], []⟩ 8 (by kernel_rfl) (by kernel_rfl) (by kernel_rfl) (by kernel_rfl))
      (by kernel_rfl) (by intro t ht; rw [Tryz.params4] at ht; simp at ht; subst ht; exact ⟨by kernel_rfl, by decide +kernel⟩) (tb := 4) rfl Tryz.underlying4 rfl
      (fun ds h => by match ds, h with | [_, _], _ => rfl) walk
theorem proved : Rows.JudgeBeatsSaid :=
  OpenClaim.holds_of_wide 4 Tryz.f4 rfl rfl rfl rfl rfl rfl rfl ⟨rfl, rfl, rfl, rfl, rfl⟩ rfl rfl rfl rfl rfl (by kernel_rfl) Tryz.func4 (by kernel_rfl)
    (of_decide_eq_true (by kernel_rfl)) (by unfold Func.isWrapper; rw [if_neg (of_decide_eq_false (by kernel_rfl))]; exact ⟨rfl, rfl⟩)
    (fun os started H enc _ => lifted os started H enc)
end
end Go.Proofs.YtmdidmoffcinjaaGreat.judgeBeats
