/- WorldApart: commands of unlike things may be done in either order: for every input. No condition. -/
import Derived.Test.YtnncbfpkeikfaaaDO
import Derived.Test.YtnncbfpkeikfaaaDY
import Derived.Test.YtnncbfpkeikfaaaDLink12a
import Derived.Test.YtnncbfpkeikfaaaVwRead2
import Derived.WalkKit
import Derived.Test.YtnncbfpkeikfaaaRows
namespace Go.Proofs.Ytnncbfpkeikfaaa.worldApart
open Go Go.Proofs Go.Vw Go.Vw.Ev Go.ChangeShapes Go.WideShapes Go.ChangeAt Go.RowKit
set_option maxRecDepth 100000
set_option linter.unusedVariables false
theorem own : ownKnob Try.prog.godebug = none := by kernel_rfl
noncomputable section
theorem run_q (b : Cl → AP → Nat → ACap → Nat → AP → Nat → ACap → Nat → List AS → List AS → Int → Int → AH → (AV → AH → Bool) → Bool) (cl : Cl) (a0 : AP) (n0 : Nat) (c0 : ACap) (z0 : Nat) (a1 : AP) (n1 : Nat) (c1 : ACap) (z1 : Nat) (a2 : List AS) (a3 : List AS) (a4 : Int) (a5 : Int) (H : AH) (K : AV → AH → Bool) : PK.run [.slice, .slice, .agg, .agg, .int .i64, .int .i64] b cl [.s (.slice a0 n0 c0 z0), .s (.slice a1 n1 c1 z1), .agg a2, .agg a3, .s (.int .i64 a4), .s (.int .i64 a5)] H K = b cl a0 n0 c0 z0 a1 n1 c1 z1 a2 a3 a4 a5 H K := rfl
theorem lv36 : leaves Try.prog 5 36 = some [Leaf.int .i64, Leaf.int .i64, Leaf.int .i64, Leaf.int .i64, Leaf.int .i64, Leaf.int .i64, Leaf.int .i64, Leaf.str, Leaf.int .i64, Leaf.str, Leaf.int .i64, Leaf.str, Leaf.int .i64, Leaf.str, Leaf.int .i64, Leaf.str, Leaf.int .i64, Leaf.int .i64, Leaf.int .i64, Leaf.int .i64, Leaf.int .i64, Leaf.int .i64] := by kernel_rfl
theorem cf36 : Try.prog.cellsOf 36 = 22 := by kernel_rfl
theorem lv3 : leaves Try.prog 5 3 = some [Leaf.int .i64] := by kernel_rfl
theorem cf3 : Try.prog.cellsOf 3 = 1 := by kernel_rfl
theorem walk : Walk Try.prog 7 Try.f7 := by
  intro H enc W base args ds p hval hA _
  rw [Try.params7] at hA hval
  obtain ⟨v0, vs0, d0, ds0, p0, q0, hargs, rfl, rfl, h0, r0⟩ := trodAll_cons hA
  obtain ⟨v1, vs1, d1, ds1, p1, q1, rfl, rfl, rfl, h1, r1⟩ := trodAll_cons r0
  obtain ⟨v2, vs2, d2, ds2, p2, q2, rfl, rfl, rfl, h2, r2⟩ := trodAll_cons r1
  obtain ⟨v3, vs3, d3, ds3, p3, q3, rfl, rfl, rfl, h3, r3⟩ := trodAll_cons r2
  obtain ⟨v4, vs4, d4, ds4, p4, q4, rfl, rfl, rfl, h4, r4⟩ := trodAll_cons r3
  obtain ⟨v5, vs5, d5, ds5, p5, q5, rfl, rfl, rfl, h5, r5⟩ := trodAll_cons r4
  obtain ⟨rfl, rfl, rfl⟩ := trodAll_nil r5
  obtain rfl : args = #[v0, v1, v2, v3, v4, v5] := by cases args; simp_all
  obtain ⟨a4, rfl, rfl, rfl, w4⟩ := open_int Try.underlying3 (hval 4 3 v4 rfl rfl) h4
  have b4 := bounds_i64 w4
  obtain ⟨a5, rfl, rfl, rfl, w5⟩ := open_int Try.underlying3 (hval 5 3 v5 rfl rfl) h5
  have b5 := bounds_i64 w5
  obtain ⟨p0, n0, c0, cs0, r0, hs0⟩ := slice_read φ0 Try.underlying57 lv36 cf36 (by decide) (hval 0 57 v0 rfl rfl) h0 .o
  obtain ⟨p1, n1, c1, cs1, r1, hs1⟩ := slice_read φ0 Try.underlying58 lv3 cf3 (by decide) (hval 1 58 v1 rfl rfl) h1 (.z .o)
  obtain ⟨φ, H1, hh, hv, hr0, hr1, hin0, hin1, hlt0, hlt1⟩ := args_two hs0 hs1
  obtain ⟨l0, rfl, hl0⟩ := sl_cm n0 cs0 hs0.leaf
  obtain ⟨l1, rfl, hl1⟩ := sl_i64 n1 cs1 hs1.leaf
  obtain ⟨as2, rv2, lf2⟩ := agg_read φ Try.underlying36 lv36 cf36 (hval 2 36 v2 rfl rfl) h2
  obtain ⟨g2, rfl⟩ := ag_cm lf2
  obtain ⟨as3, rv3, lf3⟩ := agg_read φ Try.underlying36 lv36 cf36 (hval 3 36 v3 rfl rfl) h3
  obtain ⟨g3, rfl⟩ := ag_cm lf3
  refine calls_of_okb (O_law12_WorldApart LF W) (BT.call_ok (T_ok LF W) 40) (avs := [.s (.slice p0 n0 c0 22), .s (.slice p1 n1 c1 1), .agg _, .agg _, .s (.int .i64 a4), .s (.int .i64 a5)]) (vals := [v0, v1, v2, v3, .int .i64 a4, .int .i64 a5]) (⟨_, _, rfl, by simp only [RV]; exact hr0, ⟨_, _, rfl, by simp only [RV]; exact hr1, ⟨_, _, rfl, rv2, ⟨_, _, rfl, rv3, ⟨_, _, rfl, by simp [RV, RS], ⟨_, _, rfl, by simp [RV, RS], rfl⟩⟩⟩⟩⟩⟩) hh hv ?_
  rw [run_q]
  exact B_law12_WorldApart_ (cl := (C 40)) lf1000 (cKnown (by omega)) (cFewC12 (by omega)) (cWOf (by omega)) (cWCopy (by omega)) (cWDo (by omega)) (cWAll (by omega)) (cSame6 (by omega)) ⟨hl0, fun hn => ⟨.o, (hin0 hn).1, hlt0, (hin0 hn).2⟩⟩ ⟨hl1, fun hn => ⟨.z .o, (hin1 hn).1, hlt1, (hin1 hn).2⟩⟩
theorem lifted (os : Os) (started : os.Started) (H : Type) (enc : TypeId × Value → H) :
    ReturnsInHanded {} Try.checked os 7 .any (Rows.worldApartSpec.pre6 enc Try.prog Try.f7 Rows.worldApartRow.domain false) (Rows.worldApartSpec.post enc Try.prog Try.f7 false true false false) :=
  law_lifted (C := Try.checked) own started (by kernel_rfl) Try.func7
      (ChangeSpec.witness6 (enc := enc) (C := Try.checked) false ⟨#[], #[.slice none 0 0, .slice none 0 0, .agg #[.int .i64 0, .int .i64 0, .int .i64 0, .int .i64 0, .int .i64 0, .int .i64 0, .int .i64 0, .string default, .int .i64 0, .string default, .int .i64 0, .string default, .int .i64 0, .string default, .int .i64 0, .string default, .int .i64 0, .int .i64 0, .int .i64 0, .int .i64 0, .int .i64 0, .int .i64 0], .agg #[.int .i64 0, .int .i64 0, .int .i64 0, .int .i64 0, .int .i64 0, .int .i64 0, .int .i64 0, .string default, .int .i64 0, .string default, .int .i64 0, .string default, .int .i64 0, .string default, .int .i64 0, .string default, .int .i64 0, .int .i64 0, .int .i64 0, .int .i64 0, .int .i64 0, .int .i64 0], .int .i64 0, .int .i64 0], []⟩ 8 (by kernel_rfl) (by kernel_rfl) (by kernel_rfl) (by kernel_rfl))
      (by kernel_rfl) (by intro t ht; rw [Try.params7] at ht; simp at ht; rcases ht with rfl | rfl | rfl | rfl <;> exact ⟨by kernel_rfl, by decide +kernel⟩) (tb := 4) rfl Try.underlying4 rfl
      (fun ds h => by match ds, h with | [_, _, _, _, _, _], _ => rfl) walk
theorem proved : Rows.WorldApartSaid :=
  OpenClaim.holds_of_wide 7 Try.f7 rfl rfl rfl rfl rfl rfl rfl ⟨rfl, rfl, rfl, rfl, rfl⟩ rfl rfl rfl rfl rfl (by kernel_rfl) Try.func7 (by kernel_rfl)
    (of_decide_eq_true (by kernel_rfl)) (by unfold Func.isWrapper; rw [if_neg (of_decide_eq_false (by kernel_rfl))]; exact ⟨rfl, rfl⟩)
    (fun os started H enc _ => lifted os started H enc)
end
end Go.Proofs.Ytnncbfpkeikfaaa.worldApart
