/- TablePlays: every row of puts, sets, drops: each error; all things, those of a rectangle, of a cell, behind each: for every input. No condition. -/
import Derived.Test.YtplfaoobmdgiaaaDW
import Derived.Test.YtplfaoobmdgiaaaDW
import Derived.Test.YtplfaoobmdgiaaaDLink9p
import Derived.WalkKit
import Derived.Test.YtplfaoobmdgiaaaRows
namespace Go.Proofs.Ytplfaoobmdgiaaa.tablePlays
open Go Go.Proofs Go.Vw Go.Vw.Ev Go.ChangeShapes Go.WideShapes Go.ChangeAt Go.RowKit
set_option maxRecDepth 100000
set_option linter.unusedVariables false
theorem own : ownKnob Try.prog.godebug = none := by kernel_rfl
noncomputable section
theorem run_q (b : Cl → AP → Nat → ACap → Nat → AH → (AV → AH → Bool) → Bool) (cl : Cl) (a0 : AP) (n0 : Nat) (c0 : ACap) (z0 : Nat) (H : AH) (K : AV → AH → Bool) : PK.run [.slice] b cl [.s (.slice a0 n0 c0 z0)] H K = b cl a0 n0 c0 z0 H K := rfl
theorem lv67 : leaves Try.prog 5 67 = some [Leaf.int .i64, Leaf.int .i64, Leaf.int .i64, Leaf.int .i64, Leaf.int .i64, Leaf.int .i64, Leaf.str, Leaf.int .i64, Leaf.str, Leaf.int .i64, Leaf.str, Leaf.int .i64, Leaf.str, Leaf.int .i64, Leaf.int .i64, Leaf.int .i64, Leaf.int .i64] := by kernel_rfl
theorem cf67 : Try.prog.cellsOf 67 = 17 := by kernel_rfl
theorem walk : Walk Try.prog 7 Try.f7 := by
  intro H enc W base args ds p hval hA _
  rw [Try.params7] at hA hval
  obtain ⟨v0, vs0, d0, ds0, p0, q0, hargs, rfl, rfl, h0, r0⟩ := trodAll_cons hA
  obtain ⟨rfl, rfl, rfl⟩ := trodAll_nil r0
  obtain rfl : args = #[v0] := by cases args; simp_all
  obtain ⟨p, n, c, cs, r, hs⟩ := slice_read φ0 Try.underlying57 lv67 cf67 (by decide) (hval 0 57 v0 rfl rfl) h0 .o
  obtain ⟨φ, H1, hh, hv, hr, hin, hlt⟩ := args_one hs
  obtain ⟨l, rfl, hl⟩ := sl_sp n cs hs.leaf
  refine calls_of_okb (O_law9_TablePlays LF W) (BT.call_ok (T_ok LF W) 40) (avs := [.s (.slice p n c 17)]) (vals := [v0]) (⟨_, _, rfl, by simp only [RV]; exact hr, rfl⟩) hh hv ?_
  rw [run_q]
  exact B_law9_TablePlays_ (cl := (C 40)) lf1000 (cKnown (by omega)) (cTNew (by omega)) (cFewT (by omega)) (cTCopy (by omega)) (cAt6 (by omega)) (cTPut (by omega)) (cTSet (by omega)) (cTDrop (by omega)) (cIs6 (by omega)) (cWith (by omega)) (cWithoutS (by omega)) (cAlike (by omega)) (cTOfZ (by omega)) (cTAll (by omega)) (cSame6 (by omega)) ⟨hl, fun hn => by
    obtain ⟨e1, e2⟩ := hin hn
    exact ⟨.o, e1, hlt, e2⟩⟩
theorem lifted (os : Os) (started : os.Started) (H : Type) (enc : TypeId × Value → H) :
    ReturnsInHanded {} Try.checked os 7 .any (Rows.tablePlaysSpec.pre6 enc Try.prog Try.f7 Rows.tablePlaysRow.domain false) (Rows.tablePlaysSpec.post enc Try.prog Try.f7 false true false false) :=
  law_lifted (C := Try.checked) own started (by kernel_rfl) Try.func7
      (ChangeSpec.witness6 (enc := enc) (C := Try.checked) false ⟨#[], #[.slice none 0 0], []⟩ 8 (by kernel_rfl) (by kernel_rfl) (by kernel_rfl) (by kernel_rfl))
      (by kernel_rfl) (by intro t ht; rw [Try.params7] at ht; simp at ht; subst ht; exact ⟨by kernel_rfl, by decide +kernel⟩) (tb := 4) rfl Try.underlying4 rfl
      (fun ds h => by match ds, h with | [_], _ => rfl) walk
theorem proved : Rows.TablePlaysSaid :=
  OpenClaim.holds_of_wide 7 Try.f7 rfl rfl rfl rfl rfl rfl rfl ⟨rfl, rfl, rfl, rfl, rfl⟩ rfl rfl rfl rfl rfl (by kernel_rfl) Try.func7 (by kernel_rfl)
    (of_decide_eq_true (by kernel_rfl)) (by unfold Func.isWrapper; rw [if_neg (of_decide_eq_false (by kernel_rfl))]; exact ⟨rfl, rfl⟩)
    (fun os started H enc _ => lifted os started H enc)
end
end Go.Proofs.Ytplfaoobmdgiaaa.tablePlays
