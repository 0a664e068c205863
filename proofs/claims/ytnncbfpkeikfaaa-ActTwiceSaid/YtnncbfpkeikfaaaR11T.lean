/- ActTwice: a thing that is dropped can not be moved, set, dropped; its number may be put again: for every input. No condition. -/
import Derived.Test.YtnncbfpkeikfaaaDOpenS
import Derived.Test.YtnncbfpkeikfaaaDLaw11a
import Derived.Test.YtnncbfpkeikfaaaDLink11
import Derived.WalkKit
import Derived.Test.YtnncbfpkeikfaaaRows
namespace Go.Proofs.Ytnncbfpkeikfaaa.actTwice
open Go Go.Proofs Go.Vw Go.Vw.Ev Go.ChangeShapes Go.WideShapes Go.ChangeAt Go.RowKit
set_option maxRecDepth 100000
set_option linter.unusedVariables false
theorem own : ownKnob Try.prog.godebug = none := by kernel_rfl
noncomputable section
theorem run_q (b : Cl → Int → List AS → List AS → AH → (AV → AH → Bool) → Bool) (cl : Cl) (a0 : Int) (a1 : List AS) (a2 : List AS) (H : AH) (K : AV → AH → Bool) : PK.run [.int .u8, .agg, .agg] b cl [.s (.int .u8 a0), .agg a1, .agg a2] H K = b cl a0 a1 a2 H K := rfl
theorem lv24 : leaves Try.prog 5 24 = some [Leaf.int .i64, Leaf.int .i64] := by kernel_rfl
theorem cf24 : Try.prog.cellsOf 24 = 2 := by kernel_rfl
theorem walk : Walk Try.prog 4 Try.f4 := by
  intro H enc W base args ds p hval hA _
  rw [Try.params4] at hA hval
  obtain ⟨v0, vs0, d0, ds0, p0, q0, hargs, rfl, rfl, h0, r0⟩ := trodAll_cons hA
  obtain ⟨v1, vs1, d1, ds1, p1, q1, rfl, rfl, rfl, h1, r1⟩ := trodAll_cons r0
  obtain ⟨v2, vs2, d2, ds2, p2, q2, rfl, rfl, rfl, h2, r2⟩ := trodAll_cons r1
  obtain ⟨rfl, rfl, rfl⟩ := trodAll_nil r2
  obtain rfl : args = #[v0, v1, v2] := by cases args; simp_all
  obtain ⟨a0, rfl, rfl, rfl, w0⟩ := open_int Try.underlying5 (hval 0 5 v0 rfl rfl) h0
  have b0 := bounds_u8 w0
  obtain ⟨as1, rv1, lf1⟩ := agg_read φ0 Try.underlying24 lv24 cf24 (hval 1 24 v1 rfl rfl) h1
  obtain ⟨g1, rfl⟩ := ag_pt lf1
  obtain ⟨as2, rv2, lf2⟩ := agg_read φ0 Try.underlying24 lv24 cf24 (hval 2 24 v2 rfl rfl) h2
  obtain ⟨g2, rfl⟩ := ag_pt lf2
  refine calls_of_okb (O_law11_ActTwice LF W) (BT.call_ok (T_ok LF W) 40) (avs := [.s (.int .u8 a0), .agg _, .agg _]) (vals := [.int .u8 a0, v1, v2]) (⟨_, _, rfl, by simp [RV, RS], ⟨_, _, rfl, rv1, ⟨_, _, rfl, rv2, rfl⟩⟩⟩) (RH.empty _) (view0 W) ?_
  rw [run_q]
  exact B_law11_ActTwice_ (lf := LF) (cl := (C 40)) (cKnown (by omega)) (cTNew (by omega)) (cDo (by omega)) (cCheck (by omega)) b0
theorem lifted (os : Os) (started : os.Started) (H : Type) (enc : TypeId × Value → H) :
    ReturnsInHanded {} Try.checked os 4 .any (Rows.actTwiceSpec.pre6 enc Try.prog Try.f4 Rows.actTwiceRow.domain false) (Rows.actTwiceSpec.post enc Try.prog Try.f4 false true false false) :=
  law_lifted (C := Try.checked) own started (by kernel_rfl) Try.func4
      (ChangeSpec.witness6 (enc := enc) (C := Try.checked) false ⟨#[], #[.int .u8 0, .agg #[.int .i64 0, .int .i64 0], .agg #[.int .i64 0, .int .i64 0]], []⟩ 8 (by kernel_rfl) (by kernel_rfl) (by kernel_rfl) (by kernel_rfl))
      (by kernel_rfl) (by intro t ht; rw [Try.params4] at ht; simp at ht; rcases ht with rfl | rfl <;> exact ⟨by kernel_rfl, by decide +kernel⟩) (tb := 4) rfl Try.underlying4 rfl
      (fun ds h => by match ds, h with | [_, _, _], _ => rfl) walk
theorem proved : Rows.ActTwiceSaid :=
  OpenClaim.holds_of_wide 4 Try.f4 rfl rfl rfl rfl rfl rfl rfl ⟨rfl, rfl, rfl, rfl, rfl⟩ rfl rfl rfl rfl rfl (by kernel_rfl) Try.func4 (by kernel_rfl)
    (of_decide_eq_true (by kernel_rfl)) (by unfold Func.isWrapper; rw [if_neg (of_decide_eq_false (by kernel_rfl))]; exact ⟨rfl, rfl⟩)
    (fun os started H enc _ => lifted os started H enc)
end
end Go.Proofs.Ytnncbfpkeikfaaa.actTwice
