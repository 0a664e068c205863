/- QuadPlays: every row of puts, moves, drops: each error; whoever is in whatever rectangle, how deep it is, behind each: for every input. No condition. -/
import Derived.Test.YtplfaoobmdgiaaaDV
import Derived.Test.YtplfaoobmdgiaaaDV
import Derived.Test.YtplfaoobmdgiaaaDLink8p
import Derived.WalkKit
import Derived.Test.YtplfaoobmdgiaaaRows
namespace Go.Proofs.Ytplfaoobmdgiaaa.quadPlays
open Go Go.Proofs Go.Vw Go.Vw.Ev Go.ChangeShapes Go.WideShapes Go.ChangeAt Go.RowKit
set_option maxRecDepth 100000
set_option linter.unusedVariables false
theorem own : ownKnob Try.prog.godebug = none := by kernel_rfl
noncomputable section
theorem run_q (b : Cl → AP → Nat → ACap → Nat → AH → (AV → AH → Bool) → Bool) (cl : Cl) (a0 : AP) (n0 : Nat) (c0 : ACap) (z0 : Nat) (H : AH) (K : AV → AH → Bool) : PK.run [.slice] b cl [.s (.slice a0 n0 c0 z0)] H K = b cl a0 n0 c0 z0 H K := rfl
theorem lv35 : leaves Try.prog 5 35 = some [Leaf.int .i64, Leaf.int .i64, Leaf.int .i64, Leaf.int .i64, Leaf.int .i64, Leaf.int .i64, Leaf.int .i64, Leaf.int .i64] := by kernel_rfl
theorem cf35 : Try.prog.cellsOf 35 = 8 := by kernel_rfl
theorem walk : Walk Try.prog 3 Try.f3 := by
  intro H enc W base args ds p hval hA _
  rw [Try.params3] at hA hval
  obtain ⟨v0, vs0, d0, ds0, p0, q0, hargs, rfl, rfl, h0, r0⟩ := trodAll_cons hA
  obtain ⟨rfl, rfl, rfl⟩ := trodAll_nil r0
  obtain rfl : args = #[v0] := by cases args; simp_all
  obtain ⟨p, n, c, cs, r, hs⟩ := slice_read φ0 Try.underlying22 lv35 cf35 (by decide) (hval 0 22 v0 rfl rfl) h0 .o
  obtain ⟨φ, H1, hh, hv, hr, hin, hlt⟩ := args_one hs
  obtain ⟨l, rfl, hl⟩ := sl_s8 n cs hs.leaf
  refine calls_of_okb (O_law8_QuadPlays LF W) (BT.call_ok (T_ok LF W) 40) (avs := [.s (.slice p n c 8)]) (vals := [v0]) (⟨_, _, rfl, by simp only [RV]; exact hr, rfl⟩) hh hv ?_
  rw [run_q]
  exact B_law8_QuadPlays_ (cl := (C 40)) lf1000 (cKnown (by omega)) (cNewQ (by omega)) (cQCopy (by omega)) (cPut (by omega)) (cMove (by omega)) (cDrop (by omega)) (cAt (by omega)) (cInT (by omega)) (cLen (by omega)) (cDepth (by omega)).pure (cMPut (by omega)) (cMMove (by omega)) (cMDrop (by omega)) (cMAt (by omega)) (cMIn (by omega)) (cMDepth (by omega)) (cSame8 (by omega)) ⟨hl.1, fun hn => by
    obtain ⟨e1, e2⟩ := hin hn
    exact ⟨.o, e1, hlt, e2⟩, hl.2⟩
theorem lifted (os : Os) (started : os.Started) (H : Type) (enc : TypeId × Value → H) :
    ReturnsInHanded {} Try.checked os 3 .any (Rows.quadPlaysSpec.pre6 enc Try.prog Try.f3 Rows.quadPlaysRow.domain false) (Rows.quadPlaysSpec.post enc Try.prog Try.f3 false true false false) :=
  law_lifted (C := Try.checked) own started (by kernel_rfl) Try.func3
      (ChangeSpec.witness6 (enc := enc) (C := Try.checked) false ⟨#[], #[.slice none 0 0], []⟩ 8 (by kernel_rfl) (by kernel_rfl) (by kernel_rfl) (by kernel_rfl))
      (by kernel_rfl) (by intro t ht; rw [Try.params3] at ht; simp at ht; subst ht; exact ⟨by kernel_rfl, by decide +kernel⟩) (tb := 4) rfl Try.underlying4 rfl
      (fun ds h => by match ds, h with | [_], _ => rfl) walk
theorem proved : Rows.QuadPlaysSaid :=
  OpenClaim.holds_of_wide 3 Try.f3 rfl rfl rfl rfl rfl rfl rfl ⟨rfl, rfl, rfl, rfl, rfl⟩ rfl rfl rfl rfl rfl (by kernel_rfl) Try.func3 (by kernel_rfl)
    (of_decide_eq_true (by kernel_rfl)) (by unfold Func.isWrapper; rw [if_neg (of_decide_eq_false (by kernel_rfl))]; exact ⟨rfl, rfl⟩)
    (fun os started H enc _ => lifted os started H enc)
end
end Go.Proofs.Ytplfaoobmdgiaaa.quadPlays
