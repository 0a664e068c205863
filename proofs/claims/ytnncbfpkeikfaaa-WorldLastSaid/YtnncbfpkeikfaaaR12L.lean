/- WorldLast: of a row of moves and sets of one thing the last ones count: for every input. No condition. -/
import Derived.Test.YtnncbfpkeikfaaaDLaw12b
import Derived.Test.YtnncbfpkeikfaaaDLink12
import Derived.Test.YtnncbfpkeikfaaaVwRead2
import Derived.WalkKit
import Derived.Test.YtnncbfpkeikfaaaRows
namespace Go.Proofs.Ytnncbfpkeikfaaa.worldLast
open Go Go.Proofs Go.Vw Go.Vw.Ev Go.ChangeShapes Go.WideShapes Go.ChangeAt Go.RowKit
set_option maxRecDepth 100000
set_option linter.unusedVariables false
theorem own : ownKnob Try.prog.godebug = none := by kernel_rfl
noncomputable section
theorem run_q (b : Cl → AP → Nat → ACap → Nat → AP → Nat → ACap → Nat → AH → (AV → AH → Bool) → Bool) (cl : Cl) (a0 : AP) (n0 : Nat) (c0 : ACap) (z0 : Nat) (a1 : AP) (n1 : Nat) (c1 : ACap) (z1 : Nat) (H : AH) (K : AV → AH → Bool) : PK.run [.slice, .slice] b cl [.s (.slice a0 n0 c0 z0), .s (.slice a1 n1 c1 z1)] H K = b cl a0 n0 c0 z0 a1 n1 c1 z1 H K := rfl
theorem lv5 : leaves Try.prog 5 5 = some [Leaf.int .u8] := by kernel_rfl
theorem cf5 : Try.prog.cellsOf 5 = 1 := by kernel_rfl
theorem walk : Walk Try.prog 9 Try.f9 := by
  intro H enc W base args ds p hval hA _
  rw [Try.params9] at hA hval
  obtain ⟨v0, vs0, d0, ds0, p0, q0, hargs, rfl, rfl, h0, r0⟩ := trodAll_cons hA
  obtain ⟨v1, vs1, d1, ds1, p1, q1, rfl, rfl, rfl, h1, r1⟩ := trodAll_cons r0
  obtain ⟨rfl, rfl, rfl⟩ := trodAll_nil r1
  obtain rfl : args = #[v0, v1] := by cases args; simp_all
  obtain ⟨p0, n0, c0, cs0, r0, hs0⟩ := slice_read φ0 Try.underlying41 lv5 cf5 (by decide) (hval 0 41 v0 rfl rfl) h0 .o
  obtain ⟨p1, n1, c1, cs1, r1, hs1⟩ := slice_read φ0 Try.underlying41 lv5 cf5 (by decide) (hval 1 41 v1 rfl rfl) h1 (.z .o)
  obtain ⟨φ, H1, hh, hv, hr0, hr1, hin0, hin1, hlt0, hlt1⟩ := args_two hs0 hs1
  obtain ⟨l0, rfl, hl0⟩ := sl_u8 n0 cs0 hs0.leaf
  obtain ⟨l1, rfl, hl1⟩ := sl_u8 n1 cs1 hs1.leaf
  refine calls_of_okb (O_law12_WorldLast LF W) (BT.call_ok (T_ok LF W) 40) (avs := [.s (.slice p0 n0 c0 1), .s (.slice p1 n1 c1 1)]) (vals := [v0, v1]) (⟨_, _, rfl, by simp only [RV]; exact hr0, ⟨_, _, rfl, by simp only [RV]; exact hr1, rfl⟩⟩) hh hv ?_
  rw [run_q]
  exact B_law12_WorldLast_ (cl := (C 40)) lf1000 (cKnown (by omega)) (cWNew (by omega)) (cWDo (by omega)) (cWAll (by omega)) ⟨hl0.1, fun hn => ⟨.o, (hin0 hn).1, hlt0, (hin0 hn).2⟩⟩ ⟨hl1.1, fun hn => ⟨.z .o, (hin1 hn).1, hlt1, (hin1 hn).2⟩⟩ hl0.2 hl1.2
theorem lifted (os : Os) (started : os.Started) (H : Type) (enc : TypeId × Value → H) :
    ReturnsInHanded {} Try.checked os 9 .any (Rows.worldLastSpec.pre6 enc Try.prog Try.f9 Rows.worldLastRow.domain false) (Rows.worldLastSpec.post enc Try.prog Try.f9 false true false false) :=
  law_lifted (C := Try.checked) own started (by kernel_rfl) Try.func9
      (ChangeSpec.witness6 (enc := enc) (C := Try.checked) false ⟨#[], #[.slice none 0 0, .slice none 0 0], []⟩ 8 (by kernel_rfl) (by kernel_rfl) (by kernel_rfl) (by kernel_rfl))
      (by kernel_rfl) (by intro t ht; rw [Try.params9] at ht; simp at ht; subst ht; exact ⟨by kernel_rfl, by decide +kernel⟩) (tb := 4) rfl Try.underlying4 rfl
      (fun ds h => by match ds, h with | [_, _], _ => rfl) walk
theorem proved : Rows.WorldLastSaid :=
  OpenClaim.holds_of_wide 9 Try.f9 rfl rfl rfl rfl rfl rfl rfl ⟨rfl, rfl, rfl, rfl, rfl⟩ rfl rfl rfl rfl rfl (by kernel_rfl) Try.func9 (by kernel_rfl)
    (of_decide_eq_true (by kernel_rfl)) (by unfold Func.isWrapper; rw [if_neg (of_decide_eq_false (by kernel_rfl))]; exact ⟨rfl, rfl⟩)
    (fun os started H enc _ => lifted os started H enc)
end
end Go.Proofs.Ytnncbfpkeikfaaa.worldLast
