/- QueueRoundsSaid: for every input. No condition. -/
import Derived.Test.YtbjciplcaekjpaaQueCl
import Derived.Test.YtbjciplcaekjpaaVwRead
import Derived.WalkKit
import Derived.Test.YtbjciplcaekjpaaRows
namespace Go.Proofs.Ytbjciplcaekjpaa.queueRounds
open Go Go.Vw Go.Vw.Ev Go.ChangeShapes Go.WideShapes Go.ChangeAt Go.RowKit
set_option maxRecDepth 100000
set_option linter.unusedVariables false
theorem own : ownKnob Try.prog.godebug = none := by kernel_rfl
theorem u8_nat {a : Int} (w : (Lit.int .u8 a).wf = true) : ∃ n : Nat, a = Int.ofNat n := by
  have := bounds_u8 w
  exact ⟨a.toNat, by simp; omega⟩
noncomputable section
theorem run2 (b : Cl → Int → Int → AH → (AV → AH → Bool) → Bool) (cl : Cl) (n m : Int) (H : AH) (K : AV → AH → Bool) : PK.run [.int .u8, .int .u8] b cl [.s (.int .u8 n), .s (.int .u8 m)] H K = b cl n m H K := rfl
theorem walk : Walk Try.prog 4 Try.f4 := by
  intro H enc W base args ds p hval hA _
  rw [Try.params4] at hA hval
  obtain ⟨v0, vs0, d0, ds0, p0, q0, hargs, rfl, rfl, h0, r0⟩ := trodAll_cons hA
  obtain ⟨v1, vs1, d1, ds1, p1, q1, rfl, rfl, rfl, h1, r1⟩ := trodAll_cons r0
  obtain ⟨rfl, rfl, rfl⟩ := trodAll_nil r1
  obtain rfl : args = #[v0, v1] := by cases args; simp_all
  obtain ⟨a0, rfl, rfl, rfl, w0⟩ := open_int Try.underlying5 (hval 0 5 v0 rfl rfl) h0
  obtain ⟨a1, rfl, rfl, rfl, w1⟩ := open_int Try.underlying5 (hval 1 5 v1 rfl rfl) h1
  obtain ⟨n0, rfl⟩ := u8_nat w0
  obtain ⟨n1, rfl⟩ := u8_nat w1
  refine calls_of_okb (O4 20000 W) (BT.call_ok (T_ok 20000 W) 5) (avs := [.s (.int .u8 (Int.ofNat n0)), .s (.int .u8 (Int.ofNat n1))]) (vals := [.int .u8 (Int.ofNat n0), .int .u8 (Int.ofNat n1)]) (by simp [RVL, RV, RS]) (RH.empty _) (view0 W) ?_
  rw [run2]
  exact B4_ (by decide) (c10 4) (c11 4) (c12 4) (c13 4) (c14 3) (c15 4)

theorem lifted (os : Os) (started : os.Started) (H : Type) (enc : TypeId × Value → H) :
    ReturnsInHanded {} Try.checked os 4 .any (Rows.queueRoundsSpec.pre6 enc Try.prog Try.f4 Rows.queueRoundsRow.domain false) (Rows.queueRoundsSpec.post enc Try.prog Try.f4 false true false false) :=
  law_lifted (C := Try.checked) own started (by kernel_rfl) Try.func4
      (ChangeSpec.witness6 (enc := enc) (C := Try.checked) false ⟨#[], #[.int .u8 0, .int .u8 0], []⟩ 8 (by kernel_rfl) (by kernel_rfl) (by kernel_rfl) (by kernel_rfl))
      (by kernel_rfl) (by intro t ht; rw [Try.params4] at ht; simp at ht; subst ht; exact ⟨by kernel_rfl, by decide +kernel⟩) (tb := 4) rfl Try.underlying4 rfl
      (fun ds h => by match ds, h with | [_, _], _ => rfl) walk
theorem proved : Rows.QueueRoundsSaid :=
  OpenClaim.holds_of_wide 4 Try.f4 rfl rfl rfl rfl rfl rfl rfl ⟨rfl, rfl, rfl, rfl, rfl⟩ rfl rfl rfl rfl rfl (by kernel_rfl) Try.func4 (by kernel_rfl)
    (of_decide_eq_true (by kernel_rfl)) (by unfold Func.isWrapper; rw [if_neg (of_decide_eq_false (by kernel_rfl))]; exact ⟨rfl, rfl⟩)
    (fun os started H enc _ => lifted os started H enc)
end
end Go.Proofs.Ytbjciplcaekjpaa.queueRounds
