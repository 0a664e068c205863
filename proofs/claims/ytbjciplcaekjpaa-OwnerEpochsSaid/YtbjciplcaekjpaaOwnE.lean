/- OwnerEpochsSaid: for every input. No condition. -/
import Derived.Test.YtbjciplcaekjpaaOwnCl
import Derived.Test.YtbjciplcaekjpaaOwnLaws2
import Derived.WalkKit
import Derived.Test.YtbjciplcaekjpaaRows
namespace Go.Proofs.Ytbjciplcaekjpaa.ownerEpochs
open Go Go.Vw Go.Vw.Ev Go.ChangeShapes Go.WideShapes Go.ChangeAt Go.RowKit
set_option maxRecDepth 100000
set_option linter.unusedVariables false
theorem own : ownKnob Try.prog.godebug = none := by kernel_rfl
theorem u8_nat {a : Int} (w : (Lit.int .u8 a).wf = true) : ∃ n : Nat, a = Int.ofNat n := by
  have := bounds_u8 w
  exact ⟨a.toNat, by simp; omega⟩
noncomputable section
theorem fl3_of : ∀ (n : Nat) (cs : List AS), LeavesV (List.replicate n [Leaf.int .i64, Leaf.int .i64, Leaf.int .i64]).flatten cs → ∃ l : List (Int × Int × Int), cs = fl3 l ∧ l.length = n
  | 0, [], _ => ⟨[], rfl, rfl⟩
  | 0, _ :: _, h => h.elim
  | n + 1, [], h => h.elim
  | n + 1, [_], h => h.2.elim
  | n + 1, [_, _], h => h.2.2.elim
  | n + 1, x :: y :: z :: r, h => by
    obtain ⟨h1, h2, h3, h4⟩ := h
    cases x <;> first | exact h1.elim | skip
    cases y <;> first | exact h2.elim | skip
    cases z <;> first | exact h3.elim | skip
    obtain ⟨l, rfl, hl⟩ := fl3_of n r h4
    obtain ⟨rfl, _⟩ := h1
    obtain ⟨rfl, _⟩ := h2
    obtain ⟨rfl, _⟩ := h3
    exact ⟨(_, _, _) :: l, rfl, by simp [hl]⟩
theorem lv : leaves Try.prog 3 65 = some [Leaf.int .i64, Leaf.int .i64, Leaf.int .i64] := by kernel_rfl
theorem cf : Try.prog.cellsOf 65 = 3 := by kernel_rfl
variable {cl : Cl} {H : AH} {K : AV → AH → Bool}
theorem run2 (b : Cl → Int → AP → Nat → ACap → Nat → AH → (AV → AH → Bool) → Bool) (n p m c z) : PK.run [.int .u8, .slice] b cl [.s (.int .u8 n), .s (.slice p m c z)] H K = b cl n p m c z H K := rfl
theorem walk : Walk Try.prog 7 Try.f7 := by
  intro H enc W base args ds p hval hA _
  rw [Try.params7] at hA hval
  obtain ⟨v0, vs0, d0, ds0, p0, q0, hargs, rfl, rfl, h0, r0⟩ := trodAll_cons hA
  obtain ⟨v1, vs1, d1, ds1, p1, q1, rfl, rfl, rfl, h1, r1⟩ := trodAll_cons r0
  obtain ⟨rfl, rfl, rfl⟩ := trodAll_nil r1
  obtain rfl : args = #[v0, v1] := by cases args; simp_all
  obtain ⟨a0, rfl, rfl, rfl, w0⟩ := open_int Try.underlying5 (hval 0 5 v0 rfl rfl) h0
  obtain ⟨n0, rfl⟩ := u8_nat w0
  obtain ⟨p, n, c, cs, r, hs⟩ := slice_read φ0 Try.underlying57 lv cf (by decide) (hval 1 57 v1 rfl rfl) h1 .o
  obtain ⟨φ, H1, hh, hv, hr, hin, hlt⟩ := args_one hs
  obtain ⟨l, rfl, hl⟩ := fl3_of n cs hs.leaf
  have hI : In3 H1 p n l := ⟨hl, fun hn => by
    obtain ⟨e1, e2⟩ := hin hn
    exact ⟨.o, e1, hlt, e2⟩⟩
  refine calls_of_okb (O7 20000 W) (BT.call_ok (T_ok 20000 W) 5) (avs := [.s (.int .u8 (Int.ofNat n0)), .s (.slice p n c 3)]) (vals := [.int .u8 (Int.ofNat n0), v1]) (by simp only [RVL, RV]; exact ⟨_, _, rfl, by simp [RS], _, _, rfl, hr, rfl⟩) hh hv ?_
  rw [run2]
  exact B7_ (by decide) (c16 4) (c17 4) (c20 3) (c23 4) (c27 4) (c28 4) hI

theorem lifted (os : Os) (started : os.Started) (H : Type) (enc : TypeId × Value → H) :
    ReturnsInHanded {} Try.checked os 7 .any (Rows.ownerEpochsSpec.pre6 enc Try.prog Try.f7 Rows.ownerEpochsRow.domain false) (Rows.ownerEpochsSpec.post enc Try.prog Try.f7 false true false false) :=
  law_lifted (C := Try.checked) own started (by kernel_rfl) Try.func7
      (ChangeSpec.witness6 (enc := enc) (C := Try.checked) false ⟨#[], #[.int .u8 0, .slice none 0 0], []⟩ 8 (by kernel_rfl) (by kernel_rfl) (by kernel_rfl) (by kernel_rfl))
      (by kernel_rfl) (by intro t ht; rw [Try.params7] at ht; simp at ht; rcases ht with rfl | rfl <;> exact ⟨by kernel_rfl, by decide +kernel⟩) (tb := 4) rfl Try.underlying4 rfl
      (fun ds h => by match ds, h with | [_, _], _ => rfl) walk
theorem proved : Rows.OwnerEpochsSaid :=
  OpenClaim.holds_of_wide 7 Try.f7 rfl rfl rfl rfl rfl rfl rfl ⟨rfl, rfl, rfl, rfl, rfl⟩ rfl rfl rfl rfl rfl (by kernel_rfl) Try.func7 (by kernel_rfl)
    (of_decide_eq_true (by kernel_rfl)) (by unfold Func.isWrapper; rw [if_neg (of_decide_eq_false (by kernel_rfl))]; exact ⟨rfl, rfl⟩)
    (fun os started H enc _ => lifted os started H enc)
end
end Go.Proofs.Ytbjciplcaekjpaa.ownerEpochs
