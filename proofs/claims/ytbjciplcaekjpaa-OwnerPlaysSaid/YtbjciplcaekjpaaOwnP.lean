/- OwnerPlaysSaid: for every input. No condition. -/
import Derived.Test.YtbjciplcaekjpaaOwnCl
import Derived.Test.YtbjciplcaekjpaaOwnLaws
import Derived.WalkKit
import Derived.Test.YtbjciplcaekjpaaRows
namespace Go.Proofs.Ytbjciplcaekjpaa.ownerPlays
open Go Go.Vw Go.Vw.Ev Go.ChangeShapes Go.WideShapes Go.ChangeAt Go.RowKit
set_option maxRecDepth 100000
set_option linter.unusedVariables false
theorem own : ownKnob Try.prog.godebug = none := by kernel_rfl
theorem u8_nat {a : Int} (w : (Lit.int .u8 a).wf = true) : ∃ n : Nat, a = Int.ofNat n := by
  have := bounds_u8 w
  exact ⟨a.toNat, by simp; omega⟩
noncomputable section
theorem fl3_of : ∀ (n : Nat) (cs : List AS), LeavesV (List.replicate n [Leaf.int .i64, Leaf.int .i64, Leaf.int .i64]).flatten cs → ∃ l : List (Int × Int × Int), cs = fl3 l ∧ l.length = n
  | 0, [], _ => ⟨[], rfl, rfl⟩
  | 0, _ :: _, h => h.elim
  | n + 1, [], h => h.elim
  | n + 1, [_], h => h.2.elim
  | n + 1, [_, _], h => h.2.2.elim
  | n + 1, x :: y :: z :: r, h => by
    obtain ⟨h1, h2, h3, h4⟩ := h
    cases x <;> first | exact h1.elim | skip
    cases y <;> first | exact h2.elim | skip
    cases z <;> first | exact h3.elim | skip
    obtain ⟨l, rfl, hl⟩ := fl3_of n r h4
    obtain ⟨rfl, _⟩ := h1
    obtain ⟨rfl, _⟩ := h2
    obtain ⟨rfl, _⟩ := h3
    exact ⟨(_, _, _) :: l, rfl, by simp [hl]⟩
theorem lv : leaves Try.prog 3 65 = some [Leaf.int .i64, Leaf.int .i64, Leaf.int .i64] := by kernel_rfl
theorem cf : Try.prog.cellsOf 65 = 3 := by kernel_rfl
variable {cl : Cl} {H : AH} {K : AV → AH → Bool}
theorem run5 (b : Cl → Int → AP → Nat → ACap → Nat → Int → AH → (AV → AH → Bool) → Bool) (n p m c z s) : PK.run [.int .i64, .slice, .int .i64] b cl [.s (.int .i64 n), .s (.slice p m c z), .s (.int .i64 s)] H K = b cl n p m c z s H K := rfl
theorem walk : Walk Try.prog 5 Try.f5 := by
  intro H enc W base args ds p hval hA _
  rw [Try.params5] at hA hval
  obtain ⟨v0, vs0, d0, ds0, p0, q0, hargs, rfl, rfl, h0, r0⟩ := trodAll_cons hA
  obtain ⟨v1, vs1, d1, ds1, p1, q1, rfl, rfl, rfl, h1, r1⟩ := trodAll_cons r0
  obtain ⟨v2, vs2, d2, ds2, p2, q2, rfl, rfl, rfl, h2, r2⟩ := trodAll_cons r1
  obtain ⟨rfl, rfl, rfl⟩ := trodAll_nil r2
  obtain rfl : args = #[v0, v1, v2] := by cases args; simp_all
  obtain ⟨a0, rfl, rfl, rfl, w0⟩ := open_int Try.underlying3 (hval 0 3 v0 rfl rfl) h0
  obtain ⟨a2, rfl, rfl, rfl, w2⟩ := open_int Try.underlying3 (hval 2 3 v2 rfl rfl) h2
  obtain ⟨p, n, c, cs, r, hs⟩ := slice_read φ0 Try.underlying57 lv cf (by decide) (hval 1 57 v1 rfl rfl) h1 .o
  obtain ⟨φ, H1, hh, hv, hr, hin, hlt⟩ := args_one hs
  obtain ⟨l, rfl, hl⟩ := fl3_of n cs hs.leaf
  have hI : In3 H1 p n l := ⟨hl, fun hn => by
    obtain ⟨e1, e2⟩ := hin hn
    exact ⟨.o, e1, hlt, e2⟩⟩
  refine calls_of_okb (O5 20000 W) (BT.call_ok (T_ok 20000 W) 5) (avs := [.s (.int .i64 a0), .s (.slice p n c 3), .s (.int .i64 a2)]) (vals := [.int .i64 a0, v1, .int .i64 a2]) (by simp only [RVL, RV]; exact ⟨_, _, rfl, by simp [RS], _, _, rfl, hr, _, _, rfl, by simp [RS], rfl⟩) hh hv ?_
  rw [run5]
  exact B5_ (by decide) (c16 4) (c17 4) (c18 4) (c19 4) (c20 3) (c21 3) (c22 2) (c23 4) (c24 4) hI

theorem lifted (os : Os) (started : os.Started) (H : Type) (enc : TypeId × Value → H) :
    ReturnsInHanded {} Try.checked os 5 .any (Rows.ownerPlaysSpec.pre6 enc Try.prog Try.f5 Rows.ownerPlaysRow.domain false) (Rows.ownerPlaysSpec.post enc Try.prog Try.f5 false true false false) :=
  law_lifted (C := Try.checked) own started (by kernel_rfl) Try.func5
      (ChangeSpec.witness6 (enc := enc) (C := Try.checked) false ⟨#[], #[.int .i64 0, .slice none 0 0, .int .i64 0], []⟩ 8 (by kernel_rfl) (by kernel_rfl) (by kernel_rfl) (by kernel_rfl))
      (by kernel_rfl) (by intro t ht; rw [Try.params5] at ht; simp at ht; rcases ht with rfl | rfl | rfl <;> exact ⟨by kernel_rfl, by decide +kernel⟩) (tb := 4) rfl Try.underlying4 rfl
      (fun ds h => by match ds, h with | [_, _, _], _ => rfl) walk
theorem proved : Rows.OwnerPlaysSaid :=
  OpenClaim.holds_of_wide 5 Try.f5 rfl rfl rfl rfl rfl rfl rfl ⟨rfl, rfl, rfl, rfl, rfl⟩ rfl rfl rfl rfl rfl (by kernel_rfl) Try.func5 (by kernel_rfl)
    (of_decide_eq_true (by kernel_rfl)) (by unfold Func.isWrapper; rw [if_neg (of_decide_eq_false (by kernel_rfl))]; exact ⟨rfl, rfl⟩)
    (fun os started H enc _ => lifted os started H enc)
end
end Go.Proofs.Ytbjciplcaekjpaa.ownerPlays
