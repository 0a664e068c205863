/- WorldPlays: every row of commands: each number, each error; all things, those that a rectangle has, behind each: for every input. No condition. -/
import Derived.Test.YtnncbfpkeikfaaaGreatDP
import Derived.Test.YtnncbfpkeikfaaaGreatDP
import Derived.Test.YtnncbfpkeikfaaaGreatDZ
import Derived.Test.YtnncbfpkeikfaaaGreatDLink12e
import Derived.Test.YtnncbfpkeikfaaaGreatVwRead2
import Derived.WalkKit
import Derived.Test.YtnncbfpkeikfaaaGreatRows
namespace Go.Proofs.YtnncbfpkeikfaaaGreat.worldPlays
open Go Go.Proofs Go.Vw Go.Vw.Ev Go.ChangeShapes Go.WideShapes Go.ChangeAt Go.RowKit
set_option maxRecDepth 100000
set_option linter.unusedVariables false
theorem own : ownKnob Tryz.prog.godebug = none := by kernel_rfl
noncomputable section
theorem run_q (b : Cl → AP → Nat → ACap → Nat → AP → Nat → ACap → Nat → List AS → AH → (AV → AH → Bool) → Bool) (cl : Cl) (a0 : AP) (n0 : Nat) (c0 : ACap) (z0 : Nat) (a1 : AP) (n1 : Nat) (c1 : ACap) (z1 : Nat) (a2 : List AS) (H : AH) (K : AV → AH → Bool) : PK.run [.slice, .slice, .agg] b cl [.s (.slice a0 n0 c0 z0), .s (.slice a1 n1 c1 z1), .agg a2] H K = b cl a0 n0 c0 z0 a1 n1 c1 z1 a2 H K := rfl
theorem lv31 : leaves Tryz.prog 5 31 = some [Leaf.int .i64, Leaf.int .i64, Leaf.int .i64, Leaf.int .i64, Leaf.int .i64, Leaf.int .i64, Leaf.int .i64, Leaf.str, Leaf.int .i64, Leaf.str, Leaf.int .i64, Leaf.str, Leaf.int .i64, Leaf.str, Leaf.int .i64, Leaf.str, Leaf.int .i64, Leaf.int .i64, Leaf.int .i64, Leaf.int .i64, Leaf.int .i64, Leaf.int .i64] := by kernel_rfl
theorem cf31 : Tryz.prog.cellsOf 31 = 22 := by kernel_rfl
theorem lv3 : leaves Tryz.prog 5 3 = some [Leaf.int .i64] := by kernel_rfl
theorem cf3 : Tryz.prog.cellsOf 3 = 1 := by kernel_rfl
theorem lv29 : leaves Tryz.prog 5 29 = some [Leaf.int .i64, Leaf.int .i64, Leaf.int .i64, Leaf.int .i64] := by kernel_rfl
theorem cf29 : Tryz.prog.cellsOf 29 = 4 := by kernel_rfl
theorem walk : Walk Tryz.prog 4 Tryz.f4 := by
  intro H enc W base args ds p hval hA _
  rw [Tryz.params4] at hA hval
  obtain ⟨v0, vs0, d0, ds0, p0, q0, hargs, rfl, rfl, h0, r0⟩ := trodAll_cons hA
  obtain ⟨v1, vs1, d1, ds1, p1, q1, rfl, rfl, rfl, h1, r1⟩ := trodAll_cons r0
  obtain ⟨v2, vs2, d2, ds2, p2, q2, rfl, rfl, rfl, h2, r2⟩ := trodAll_cons r1
  obtain ⟨rfl, rfl, rfl⟩ := trodAll_nil r2
  obtain rfl : args = #[v0, v1, v2] := by cases args; simp_all
  obtain ⟨p0, n0, c0, cs0, r0, hs0⟩ := slice_read φ0 Tryz.underlying47 lv31 cf31 (by decide) (hval 0 47 v0 rfl rfl) h0 .o
  obtain ⟨p1, n1, c1, cs1, r1, hs1⟩ := slice_read φ0 Tryz.underlying48 lv3 cf3 (by decide) (hval 1 48 v1 rfl rfl) h1 (.z .o)
  obtain ⟨φ, H1, hh, hv, hr0, hr1, hin0, hin1, hlt0, hlt1⟩ := args_two hs0 hs1
  obtain ⟨l0, rfl, hl0⟩ := sl_cm n0 cs0 hs0.leaf
  obtain ⟨l1, rfl, hl1⟩ := sl_i64 n1 cs1 hs1.leaf
  obtain ⟨as2, rv2, lf2⟩ := agg_read φ Tryz.underlying29 lv29 cf29 (hval 2 29 v2 rfl rfl) h2
  obtain ⟨g2, rfl⟩ := ag_rcR lf2
  refine calls_of_okb (O_law12_WorldPlays LF W) (BT.call_ok (T_ok LF W) 40) (avs := [.s (.slice p0 n0 c0 22), .s (.slice p1 n1 c1 1), .agg _]) (vals := [v0, v1, v2]) (⟨_, _, rfl, by simp only [RV]; exact hr0, ⟨_, _, rfl, by simp only [RV]; exact hr1, ⟨_, _, rfl, rv2, rfl⟩⟩⟩) hh hv ?_
  rw [run_q]
  exact B_law12_WorldPlays_ (cl := (C 40)) lf1000 (cKnown (by omega)) (cFewC12 (by omega)) (cWNew (by omega)) (cWCopy (by omega)) (cWDo (by omega)) (cDo11 (by omega)) (cWAll (by omega)) (cWSee (by omega)) (cSeen (by omega)) (cWLen (by omega)) (cWOfF (by omega)) (cSame6 (by omega)) ⟨hl0, fun hn => ⟨.o, (hin0 hn).1, hlt0, (hin0 hn).2⟩⟩ ⟨hl1, fun hn => ⟨.z .o, (hin1 hn).1, hlt1, (hin1 hn).2⟩⟩
theorem lifted (os : Os) (started : os.Started) (H : Type) (enc : TypeId × Value → H) :
    ReturnsInHanded {} Tryz.checked os 4 .any (Rows.worldPlaysSpec.pre6 enc Tryz.prog Tryz.f4 Rows.worldPlaysRow.domain false) (Rows.worldPlaysSpec.post enc Tryz.prog Tryz.f4 false true false false) :=
  law_lifted (C := Tryz.checked) own started (by kernel_rfl) Tryz.func4
      (ChangeSpec.witness6 (enc := enc) (C := Tryz.checked) false ⟨#[], #[.slice none 0 0, .slice none 0 0, .agg #[.int .i64 0, .int .i64 0, .int .i64 0, .int .i64 0]], []⟩ 8 (by kernel_rfl) (by kernel_rfl) (by kernel_rfl) (by kernel_rfl))
      (by kernel_rfl) (by intro t ht; rw [Tryz.params4] at ht; simp at ht; rcases ht with rfl | rfl | rfl <;> exact ⟨by kernel_rfl, by decide +kernel⟩) (tb := 4) rfl Tryz.underlying4 rfl
      (fun ds h => by match ds, h with | [_, _, _], _ => rfl) walk
theorem proved : Rows.WorldPlaysSaid :=
  OpenClaim.holds_of_wide 4 Tryz.f4 rfl rfl rfl rfl rfl rfl rfl ⟨rfl, rfl, rfl, rfl, rfl⟩ rfl rfl rfl rfl rfl (by kernel_rfl) Tryz.func4 (by kernel_rfl)
    (of_decide_eq_true (by kernel_rfl)) (by unfold Func.isWrapper; rw [if_neg (of_decide_eq_false (by kernel_rfl))]; exact ⟨rfl, rfl⟩)
    (fun os started H enc _ => lifted os started H enc)
end
end Go.Proofs.YtnncbfpkeikfaaaGreat.worldPlays
