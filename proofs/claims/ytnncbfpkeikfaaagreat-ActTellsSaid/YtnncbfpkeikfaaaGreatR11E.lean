/- ActTells: of every table and command: whether it may be done, what it does, the number that it tells: for every input. No condition. -/
import Derived.Test.YtnncbfpkeikfaaaGreatDO
import Derived.Test.YtnncbfpkeikfaaaGreatDO
import Derived.Test.YtnncbfpkeikfaaaGreatDY
import Derived.Test.YtnncbfpkeikfaaaGreatDLink11e
import Derived.WalkKit
import Derived.Test.YtnncbfpkeikfaaaGreatRows
namespace Go.Proofs.YtnncbfpkeikfaaaGreat.actTells
open Go Go.Proofs Go.Vw Go.Vw.Ev Go.ChangeShapes Go.WideShapes Go.ChangeAt Go.RowKit
set_option maxRecDepth 100000
set_option linter.unusedVariables false
theorem own : ownKnob Tryz.prog.godebug = none := by kernel_rfl
noncomputable section
theorem run_q (b : Cl → AP → Nat → ACap → Nat → List AS → Int → AH → (AV → AH → Bool) → Bool) (cl : Cl) (a0 : AP) (n0 : Nat) (c0 : ACap) (z0 : Nat) (a1 : List AS) (a2 : Int) (H : AH) (K : AV → AH → Bool) : PK.run [.slice, .agg, .int .i64] b cl [.s (.slice a0 n0 c0 z0), .agg a1, .s (.int .i64 a2)] H K = b cl a0 n0 c0 z0 a1 a2 H K := rfl
theorem lv59 : leaves Tryz.prog 5 59 = some [Leaf.int .i64, Leaf.int .i64, Leaf.int .i64, Leaf.int .i64, Leaf.str, Leaf.int .i64, Leaf.str, Leaf.int .i64, Leaf.str, Leaf.int .i64, Leaf.str] := by kernel_rfl
theorem cf59 : Tryz.prog.cellsOf 59 = 11 := by kernel_rfl
theorem lv31 : leaves Tryz.prog 5 31 = some [Leaf.int .i64, Leaf.int .i64, Leaf.int .i64, Leaf.int .i64, Leaf.int .i64, Leaf.int .i64, Leaf.int .i64, Leaf.str, Leaf.int .i64, Leaf.str, Leaf.int .i64, Leaf.str, Leaf.int .i64, Leaf.str, Leaf.int .i64, Leaf.str, Leaf.int .i64, Leaf.int .i64, Leaf.int .i64, Leaf.int .i64, Leaf.int .i64, Leaf.int .i64] := by kernel_rfl
theorem cf31 : Tryz.prog.cellsOf 31 = 22 := by kernel_rfl
theorem walk : Walk Tryz.prog 3 Tryz.f3 := by
  intro H enc W base args ds p hval hA _
  rw [Tryz.params3] at hA hval
  obtain ⟨v0, vs0, d0, ds0, p0, q0, hargs, rfl, rfl, h0, r0⟩ := trodAll_cons hA
  obtain ⟨v1, vs1, d1, ds1, p1, q1, rfl, rfl, rfl, h1, r1⟩ := trodAll_cons r0
  obtain ⟨v2, vs2, d2, ds2, p2, q2, rfl, rfl, rfl, h2, r2⟩ := trodAll_cons r1
  obtain ⟨rfl, rfl, rfl⟩ := trodAll_nil r2
  obtain rfl : args = #[v0, v1, v2] := by cases args; simp_all
  obtain ⟨a2, rfl, rfl, rfl, w2⟩ := open_int Tryz.underlying3 (hval 2 3 v2 rfl rfl) h2
  have b2 := bounds_i64 w2
  obtain ⟨p, n, c, cs, r, hs⟩ := slice_read φ0 Tryz.underlying22 lv59 cf59 (by decide) (hval 0 22 v0 rfl rfl) h0 .o
  obtain ⟨φ, H1, hh, hv, hr, hin, hlt⟩ := args_one hs
  obtain ⟨l, rfl, hl⟩ := sl_th n cs hs.leaf
  obtain ⟨as1, rv1, lf1⟩ := agg_read φ Tryz.underlying31 lv31 cf31 (hval 1 31 v1 rfl rfl) h1
  obtain ⟨g1, rfl⟩ := ag_cm lf1
  letI : Inhabited {n : Nat // 1000000 ≤ n} := ⟨⟨n + 1000000, Nat.le_add_left _ _⟩⟩
  refine calls_of_okb (O_law11_ActTells LF W) (BT.call_ok (T_ok LF W) 40) (avs := [.s (.slice p n c 11), .agg _, .s (.int .i64 a2)]) (vals := [v0, v1, .int .i64 a2]) (⟨_, _, rfl, by simp only [RV]; exact hr, ⟨_, _, rfl, rv1, ⟨_, _, rfl, by simp [RV, RS], rfl⟩⟩⟩) hh hv ?_
  rw [run_q]
  exact B_law11_ActTells_ (cl := (C 40)) (cKnown (by omega)) (cFewTs11 (by omega)) (cFewC11 (by omega)) (cTOf (by omega)) (cTAll (by omega)) (cCheck (by omega)) (cDo (by omega)) (cDo11 (by omega)) (cChk (by omega)) (cSame6 (by omega)) ⟨hl, fun hn => by
    obtain ⟨e1, e2⟩ := hin hn
    exact ⟨.o, e1, hlt, .inl e2⟩⟩ (show n < n + 1000000 by omega) (slice_max Tryz.underlying22 h0 hr)
theorem lifted (os : Os) (started : os.Started) (H : Type) (enc : TypeId × Value → H) :
    ReturnsInHanded {} Tryz.checked os 3 .any (Rows.actTellsSpec.pre6 enc Tryz.prog Tryz.f3 Rows.actTellsRow.domain false) (Rows.actTellsSpec.post enc Tryz.prog Tryz.f3 false true false false) :=
  law_lifted (C := Tryz.checked) own started (by kernel_rfl) Tryz.func3
      (ChangeSpec.witness6 (enc := enc) (C := Tryz.checked) false ⟨#[], #[.slice none 0 0, .agg #[.int .i64 0, .int .i64 0, .int .i64 0, .int .i64 0, .int .i64 0, .int .i64 0, .int .i64 0, .string default, .int .i64 0, .string default, .int .i64 0, .string default, .int .i64 0, .string default, .int .i64 0, .string default, .int .i64 0, .int .i64 0, .int .i64 0, .int .i64 0, .int .i64 0, .int .i64 0], .int .i64 0], []⟩ 8 (by kernel_rfl) (by kernel_rfl) (by kernel_rfl) (by kernel_rfl))
      (by kernel_rfl) (by intro t ht; rw [Tryz.params3] at ht; simp at ht; rcases ht with rfl | rfl | rfl <;> exact ⟨by kernel_rfl, by decide +kernel⟩) (tb := 4) rfl Tryz.underlying4 rfl
      (fun ds h => by match ds, h with | [_, _, _], _ => rfl) walk
theorem proved : Rows.ActTellsSaid :=
  OpenClaim.holds_of_wide 3 Tryz.f3 rfl rfl rfl rfl rfl rfl rfl ⟨rfl, rfl, rfl, rfl, rfl⟩ rfl rfl rfl rfl rfl (by kernel_rfl) Tryz.func3 (by kernel_rfl)
    (of_decide_eq_true (by kernel_rfl)) (by unfold Func.isWrapper; rw [if_neg (of_decide_eq_false (by kernel_rfl))]; exact ⟨rfl, rfl⟩)
    (fun os started H enc _ => lifted os started H enc)
end
end Go.Proofs.YtnncbfpkeikfaaaGreat.actTells
