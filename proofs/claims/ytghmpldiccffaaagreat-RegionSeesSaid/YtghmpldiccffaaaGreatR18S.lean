/- RegionSees: who joins is told all that stands in its rectangle, and then only what changes: for every input. No condition. -/
import Derived.Test.YtghmpldiccffaaaGreatDJ
import Derived.Test.YtghmpldiccffaaaGreatDJ
import Derived.Test.YtghmpldiccffaaaGreatDLink18s
import Derived.WalkKit
import Derived.Test.YtghmpldiccffaaaGreatRows
namespace Go.Proofs.YtghmpldiccffaaaGreat.regionSees
open Go Go.Proofs Go.Vw Go.Vw.Ev Go.ChangeShapes Go.WideShapes Go.ChangeAt Go.RowKit
set_option maxRecDepth 100000
set_option linter.unusedVariables false
theorem own : ownKnob Tryz.prog.godebug = none := by kernel_rfl
noncomputable section
theorem run_q (b : Cl → AP → Nat → ACap → Nat → Int → AH → (AV → AH → Bool) → Bool) (cl : Cl) (a0 : AP) (n0 : Nat) (c0 : ACap) (z0 : Nat) (a1 : Int) (H : AH) (K : AV → AH → Bool) : PK.run [.slice, .int .u8] b cl [.s (.slice a0 n0 c0 z0), .s (.int .u8 a1)] H K = b cl a0 n0 c0 z0 a1 H K := rfl
theorem lv5 : leaves Tryz.prog 5 5 = some [Leaf.int .u8] := by kernel_rfl
theorem cf5 : Tryz.prog.cellsOf 5 = 1 := by kernel_rfl
theorem walk : Walk Tryz.prog 5 Tryz.f5 := by
 intro H enc W base args ds p hval hA _
 rw [Tryz.params5] at hA hval
 obtain ⟨v0, vs0, d0, ds0, p0, q0, hargs, rfl, rfl, h0, r0⟩ := trodAll_cons hA
 obtain ⟨v1, vs1, d1, ds1, p1, q1, rfl, rfl, rfl, h1, r1⟩ := trodAll_cons r0
 obtain ⟨rfl, rfl, rfl⟩ := trodAll_nil r1
 obtain rfl : args = #[v0, v1] := by cases args; simp_all
 obtain ⟨a1, rfl, rfl, rfl, w1⟩ := open_int Tryz.underlying5 (hval 1 5 v1 rfl rfl) h1
 have b1 := bounds_u8 w1
 obtain ⟨p, n, c, cs, r, hs⟩ := slice_read φ0 Tryz.underlying57 lv5 cf5 (by decide) (hval 0 57 v0 rfl rfl) h0 .o
 obtain ⟨φ, H1, hh, hv, hr, hin, hlt⟩ := args_one hs
 obtain ⟨l, rfl, hl⟩ := sl_u8 n cs hs.leaf
 refine calls_of_okb (O_law18_RegionSees LF W) (BT.call_ok (T_ok LF W) 40) (avs := [.s (.slice p n c 1), .s (.int .u8 a1)]) (vals := [v0, .int .u8 a1]) (⟨_, _, rfl, by simp only [RV]; exact hr, ⟨_, _, rfl, by simp [RV, RS], rfl⟩⟩) hh hv ?_
 rw [run_q]
 exact B_law18_RegionSees_ (cl := (C 40)) lf1000 (cKnown (by omega)) (cRgNew (by omega)) (cTakeD (by omega)) (cTakeG (by omega)) (cEndG (by omega)) (cSeenG (by omega)) ⟨hl.1, fun hn => by
  obtain ⟨e1, e2⟩ := hin hn
  exact ⟨.o, e1, hlt, e2⟩⟩ hl.2 (by have := slice_max Tryz.underlying57 h0 hr; omega) b1
theorem lifted (os : Os) (started : os.Started) (H : Type) (enc : TypeId × Value → H) :
  ReturnsInHanded {} Tryz.checked os 5 .any (Rows.regionSeesSpec.pre6 enc Tryz.prog Tryz.f5 Rows.regionSeesRow.domain false) (Rows.regionSeesSpec.post enc Tryz.prog Tryz.f5 false true false false) :=
 law_lifted (C := Tryz.checked) own started (by kernel_rfl) Tryz.func5
   (ChangeSpec.witness6 (enc := enc) (C := Tryz.checked) false ⟨#[], #[.slice none 0 0, .int .u8 0], []⟩ 8 (by kernel_rfl) (by kernel_rfl) (by kernel_rfl) (by kernel_rfl))
   (by kernel_rfl) (by intro t ht; rw [Tryz.params5] at ht; simp at ht; rcases ht with rfl | rfl <;> exact ⟨by kernel_rfl, by decide +kernel⟩) (tb := 4) rfl Tryz.underlying4 rfl
   (fun ds h => by match ds, h with | [_, _], _ => rfl) walk
theorem proved : Rows.RegionSeesSaid :=
 OpenClaim.holds_of_wide 5 Tryz.f5 rfl rfl rfl rfl rfl rfl rfl ⟨rfl, rfl, rfl, rfl, rfl⟩ rfl rfl rfl rfl rfl (by kernel_rfl) Tryz.func5 (by kernel_rfl)
  (of_decide_eq_true (by kernel_rfl)) (by unfold Func.isWrapper; rw [if_neg (of_decide_eq_false (by kernel_rfl))]; exact ⟨rfl, rfl⟩)
  (fun os started H enc _ => lifted os started H enc)
end
end Go.Proofs.YtghmpldiccffaaaGreat.regionSees
