/- QueuePlaysSaid: for every input. No condition. -/
import Derived.Test.YtbjciplcaekjpaaQueCl
import Derived.Test.YtbjciplcaekjpaaQueLaws2
import Derived.Test.YtbjciplcaekjpaaVwRead
import Derived.WalkKit
import Derived.Test.YtbjciplcaekjpaaRows
namespace Go.Proofs.Ytbjciplcaekjpaa.queuePlays
open Go Go.Vw Go.Vw.Ev Go.ChangeShapes Go.WideShapes Go.ChangeAt Go.RowKit
set_option maxRecDepth 100000
set_option linter.unusedVariables false
theorem own : ownKnob Try.prog.godebug = none := by kernel_rfl
noncomputable section
theorem fs_of : ∀ (n : Nat) (cs : List AS), LeavesV (List.replicate n [Leaf.bool, Leaf.int .i64]).flatten cs → ∃ l : List (Bool × Int), cs = fs l ∧ l.length = n
  | 0, [], _ => ⟨[], rfl, rfl⟩
  | 0, _ :: _, h => h.elim
  | n + 1, [], h => h.elim
  | n + 1, [_], h => h.2.elim
  | n + 1, x :: y :: r, h => by
    obtain ⟨h1, h2, h3⟩ := h
    cases x <;> first | exact h1.elim | skip
    cases y <;> first | exact h2.elim | skip
    obtain ⟨l, rfl, hl⟩ := fs_of n r h3
    obtain ⟨rfl, _⟩ := h2
    exact ⟨(_, _) :: l, rfl, by simp [hl]⟩
theorem lv : leaves Try.prog 3 28 = some [Leaf.bool, Leaf.int .i64] := by kernel_rfl
theorem cf : Try.prog.cellsOf 28 = 2 := by kernel_rfl
theorem walk : Walk Try.prog 3 Try.f3 := by
  intro H enc W base args ds p hval hA _
  rw [Try.params3] at hA hval
  obtain ⟨v0, vs0, d0, ds0, p0, q0, hargs, rfl, rfl, h0, r0⟩ := trodAll_cons hA
  obtain ⟨v1, vs1, d1, ds1, p1, q1, rfl, rfl, rfl, h1, r1⟩ := trodAll_cons r0
  obtain ⟨rfl, rfl, rfl⟩ := trodAll_nil r1
  obtain rfl : args = #[v0, v1] := by cases args; simp_all
  obtain ⟨a0, rfl, rfl, rfl, w0⟩ := open_int Try.underlying3 (hval 0 3 v0 rfl rfl) h0
  obtain ⟨p, n, c, cs, r, hs⟩ := slice_read φ0 Try.underlying22 lv cf (by decide) (hval 1 22 v1 rfl rfl) h1 .o
  obtain ⟨φ, H1, hh, hv, hr, hin, hlt⟩ := args_one hs
  obtain ⟨l, rfl, hl⟩ := fs_of n cs hs.leaf
  have hI : InS H1 p n l := ⟨hl, fun hn => by
    obtain ⟨e1, e2⟩ := hin hn
    exact ⟨.o, e1, hlt, e2⟩⟩
  refine calls_of_okb (O3 20000 W) (BT.call_ok (T_ok 20000 W) 5) (avs := [.s (.int .i64 a0), .s (.slice p n c 2)]) (vals := [.int .i64 a0, v1]) (by simp only [RVL, RV]; exact ⟨_, _, rfl, by simp [RS], _, _, rfl, hr, rfl⟩) hh hv ?_
  rw [run_is]
  exact B3_ (by decide) (c10 4) (c11 4) (c12 4) (c13 4) (c14 3) (c15 4) hI

theorem lifted (os : Os) (started : os.Started) (H : Type) (enc : TypeId × Value → H) :
    ReturnsInHanded {} Try.checked os 3 .any (Rows.queuePlaysSpec.pre6 enc Try.prog Try.f3 Rows.queuePlaysRow.domain false) (Rows.queuePlaysSpec.post enc Try.prog Try.f3 false true false false) :=
  law_lifted (C := Try.checked) own started (by kernel_rfl) Try.func3
      (ChangeSpec.witness6 (enc := enc) (C := Try.checked) false ⟨#[], #[.int .i64 0, .slice none 0 0], []⟩ 8 (by kernel_rfl) (by kernel_rfl) (by kernel_rfl) (by kernel_rfl))
      (by kernel_rfl) (by intro t ht; rw [Try.params3] at ht; simp at ht; rcases ht with rfl | rfl <;> exact ⟨by kernel_rfl, by decide +kernel⟩) (tb := 4) rfl Try.underlying4 rfl
      (fun ds h => by match ds, h with | [_, _], _ => rfl) walk
theorem proved : Rows.QueuePlaysSaid :=
  OpenClaim.holds_of_wide 3 Try.f3 rfl rfl rfl rfl rfl rfl rfl ⟨rfl, rfl, rfl, rfl, rfl⟩ rfl rfl rfl rfl rfl (by kernel_rfl) Try.func3 (by kernel_rfl)
    (of_decide_eq_true (by kernel_rfl)) (by unfold Func.isWrapper; rw [if_neg (of_decide_eq_false (by kernel_rfl))]; exact ⟨rfl, rfl⟩)
    (fun os started H enc _ => lifted os started H enc)
end
end Go.Proofs.Ytbjciplcaekjpaa.queuePlays
