/- ActDoes: what was done is so; nobody else is changed; what was refused changed nothing: for every input. No condition. -/
import Derived.Test.YtnncbfpkeikfaaaDOpenT
import Derived.Test.YtnncbfpkeikfaaaDOpenC
import Derived.Test.YtnncbfpkeikfaaaDLaw11d
import Derived.Test.YtnncbfpkeikfaaaDLink11d
import Derived.WalkKit
import Derived.Test.YtnncbfpkeikfaaaRows
namespace Go.Proofs.Ytnncbfpkeikfaaa.actDoes
open Go Go.Proofs Go.Vw Go.Vw.Ev Go.ChangeShapes Go.WideShapes Go.ChangeAt Go.RowKit
set_option maxRecDepth 100000
set_option linter.unusedVariables false
theorem own : ownKnob Try.prog.godebug = none := by kernel_rfl
noncomputable section
theorem run_q (b : Cl → AP → Nat → ACap → Nat → List AS → Int → AH → (AV → AH → Bool) → Bool) (cl : Cl) (a0 : AP) (n0 : Nat) (c0 : ACap) (z0 : Nat) (a1 : List AS) (a2 : Int) (H : AH) (K : AV → AH → Bool) : PK.run [.slice, .agg, .int .i64] b cl [.s (.slice a0 n0 c0 z0), .agg a1, .s (.int .i64 a2)] H K = b cl a0 n0 c0 z0 a1 a2 H K := rfl
theorem lv44 : leaves Try.prog 5 44 = some [Leaf.int .i64, Leaf.int .i64, Leaf.int .i64, Leaf.int .i64, Leaf.str, Leaf.int .i64, Leaf.str, Leaf.int .i64, Leaf.str, Leaf.int .i64, Leaf.str] := by kernel_rfl
theorem cf44 : Try.prog.cellsOf 44 = 11 := by kernel_rfl
theorem lv36 : leaves Try.prog 5 36 = some [Leaf.int .i64, Leaf.int .i64, Leaf.int .i64, Leaf.int .i64, Leaf.int .i64, Leaf.int .i64, Leaf.int .i64, Leaf.str, Leaf.int .i64, Leaf.str, Leaf.int .i64, Leaf.str, Leaf.int .i64, Leaf.str, Leaf.int .i64, Leaf.str, Leaf.int .i64, Leaf.int .i64, Leaf.int .i64, Leaf.int .i64, Leaf.int .i64, Leaf.int .i64] := by kernel_rfl
theorem cf36 : Try.prog.cellsOf 36 = 22 := by kernel_rfl
theorem walk : Walk Try.prog 6 Try.f6 := by
  intro H enc W base args ds p hval hA _
  rw [Try.params6] at hA hval
  obtain ⟨v0, vs0, d0, ds0, p0, q0, hargs, rfl, rfl, h0, r0⟩ := trodAll_cons hA
  obtain ⟨v1, vs1, d1, ds1, p1, q1, rfl, rfl, rfl, h1, r1⟩ := trodAll_cons r0
  obtain ⟨v2, vs2, d2, ds2, p2, q2, rfl, rfl, rfl, h2, r2⟩ := trodAll_cons r1
  obtain ⟨rfl, rfl, rfl⟩ := trodAll_nil r2
  obtain rfl : args = #[v0, v1, v2] := by cases args; simp_all
  obtain ⟨a2, rfl, rfl, rfl, w2⟩ := open_int Try.underlying3 (hval 2 3 v2 rfl rfl) h2
  have b2 := bounds_i64 w2
  obtain ⟨p, n, c, cs, r, hs⟩ := slice_read φ0 Try.underlying48 lv44 cf44 (by decide) (hval 0 48 v0 rfl rfl) h0 .o
  obtain ⟨φ, H1, hh, hv, hr, hin, hlt⟩ := args_one hs
  obtain ⟨l, rfl, hl⟩ := sl_th n cs hs.leaf
  obtain ⟨as1, rv1, lf1⟩ := agg_read φ Try.underlying36 lv36 cf36 (hval 1 36 v1 rfl rfl) h1
  obtain ⟨g1, rfl⟩ := ag_cm lf1
  letI : Inhabited {n : Nat // 1000000 ≤ n} := ⟨⟨n + 1000000, Nat.le_add_left _ _⟩⟩
  refine calls_of_okb (O_law11_ActDoes LF W) (BT.call_ok (T_ok LF W) 40) (avs := [.s (.slice p n c 11), .agg _, .s (.int .i64 a2)]) (vals := [v0, v1, .int .i64 a2]) (⟨_, _, rfl, by simp only [RV]; exact hr, ⟨_, _, rfl, rv1, ⟨_, _, rfl, by simp [RV, RS], rfl⟩⟩⟩) hh hv ?_
  rw [run_q]
  exact B_law11_ActDoes_ (cl := (C 40)) (cKnown (by omega)) (cFewTs11 (by omega)) (cFewC11 (by omega)) (cTOf (by omega)) (cTAll (by omega)) (cDo (by omega)) (cSame6 (by omega)) (cTGet (by omega)) (cAt6 (by omega)) (cWithout (by omega)) ⟨hl, fun hn => by
    obtain ⟨e1, e2⟩ := hin hn
    exact ⟨.o, e1, hlt, .inl e2⟩⟩ (show n < n + 1000000 by omega) (slice_max Try.underlying48 h0 hr)
theorem lifted (os : Os) (started : os.Started) (H : Type) (enc : TypeId × Value → H) :
    ReturnsInHanded {} Try.checked os 6 .any (Rows.actDoesSpec.pre6 enc Try.prog Try.f6 Rows.actDoesRow.domain false) (Rows.actDoesSpec.post enc Try.prog Try.f6 false true false false) :=
  law_lifted (C := Try.checked) own started (by kernel_rfl) Try.func6
      (ChangeSpec.witness6 (enc := enc) (C := Try.checked) false ⟨#[], #[.slice none 0 0, .agg #[.int .i64 0, .int .i64 0, .int .i64 0, .int .i64 0, .int .i64 0, .int .i64 0, .int .i64 0, .string default, .int .i64 0, .string default, .int .i64 0, .string default, .int .i64 0, .string default, .int .i64 0, .string default, .int .i64 0, .int .i64 0, .int .i64 0, .int .i64 0, .int .i64 0, .int .i64 0], .int .i64 0], []⟩ 8 (by kernel_rfl) (by kernel_rfl) (by kernel_rfl) (by kernel_rfl))
      (by kernel_rfl) (by intro t ht; rw [Try.params6] at ht; simp at ht; rcases ht with rfl | rfl | rfl <;> exact ⟨by kernel_rfl, by decide +kernel⟩) (tb := 4) rfl Try.underlying4 rfl
      (fun ds h => by match ds, h with | [_, _, _], _ => rfl) walk
theorem proved : Rows.ActDoesSaid :=
  OpenClaim.holds_of_wide 6 Try.f6 rfl rfl rfl rfl rfl rfl rfl ⟨rfl, rfl, rfl, rfl, rfl⟩ rfl rfl rfl rfl rfl (by kernel_rfl) Try.func6 (by kernel_rfl)
    (of_decide_eq_true (by kernel_rfl)) (by unfold Func.isWrapper; rw [if_neg (of_decide_eq_false (by kernel_rfl))]; exact ⟨rfl, rfl⟩)
    (fun os started H enc _ => lifted os started H enc)
end
end Go.Proofs.Ytnncbfpkeikfaaa.actDoes
