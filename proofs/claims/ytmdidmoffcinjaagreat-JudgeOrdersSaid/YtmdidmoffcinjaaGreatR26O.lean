/- JudgeOrders: what regions accepted is all there, by beats, in a beat by servers, in a server as it came: for every input. No condition. -/
import Derived.Test.YtmdidmoffcinjaaGreatDJ
import Derived.Test.YtmdidmoffcinjaaGreatDJ
import Derived.Test.YtmdidmoffcinjaaGreatDLink26o
import Derived.WalkKit
import Derived.Test.YtmdidmoffcinjaaGreatRows
namespace Go.Proofs.YtmdidmoffcinjaaGreat.judgeOrders
open Go Go.Proofs Go.Vw Go.Vw.Ev Go.ChangeShapes Go.WideShapes Go.ChangeAt Go.RowKit
set_option maxRecDepth 100000
set_option linter.unusedVariables false
theorem own : ownKnob Tryz.prog.godebug = none := by kernel_rfl
noncomputable section
theorem run_q (b : Cl → Int → AP → Nat → ACap → Nat → AH → (AV → AH → Bool) → Bool) (cl : Cl) (a0 : Int) (a1 : AP) (n1 : Nat) (c1 : ACap) (z1 : Nat) (H : AH) (K : AV → AH → Bool) : PK.run [.int .u8, .slice] b cl [.s (.int .u8 a0), .s (.slice a1 n1 c1 z1)] H K = b cl a0 a1 n1 c1 z1 H K := rfl
theorem lv5 : leaves Tryz.prog 5 5 = some [Leaf.int .u8] := by kernel_rfl
theorem cf5 : Tryz.prog.cellsOf 5 = 1 := by kernel_rfl
theorem walk : Walk Tryz.prog 6 Tryz.f6 := by
 intro H enc W base args ds p hval hA _
 rw [Tryz.params6] at hA hval
 obtain ⟨v0, vs0, d0, ds0, p0, q0, hargs, rfl, rfl, h0, r0⟩ := trodAll_cons hA
 obtain ⟨v1, vs1, d1, ds1, p1, q1, rfl, rfl, rfl, h1, r1⟩ := trodAll_cons r0
 obtain ⟨rfl, rfl, rfl⟩ := trodAll_nil r1
 obtain rfl : args = #[v0, v1] := by cases args; simp_all
 obtain ⟨a0, rfl, rfl, rfl, w0⟩ := open_int Tryz.underlying5 (hval 0 5 v0 rfl rfl) h0
 have b0 := bounds_u8 w0
 obtain ⟨p, n, c, cs, r, hs⟩ := slice_read φ0 Tryz.underlying80 lv5 cf5 (by decide) (hval 1 80 v1 rfl rfl) h1 .o
 obtain ⟨φ, H1, hh, hv, hr, hin, hlt⟩ := args_one hs
 obtain ⟨l, rfl, hl⟩ := sl_u8 n cs hs.leaf
 refine calls_of_okb (O_law26_JudgeOrders LF W) (BT.call_ok (T_ok LF W) 40) (avs := [.s (.int .u8 a0), .s (.slice p n c 1)]) (vals := [.int .u8 a0, v1]) (⟨_, _, rfl, by simp [RV, RS], ⟨_, _, rfl, by simp only [RV]; exact hr, rfl⟩⟩) hh hv ?_
 rw [run_q]
 exact B_law26_JudgeOrders_ (cl := (C 40)) lf1000 (cKnown (by omega)) (cRgNew (by omega)) (cTakeD (by omega)) (cEnd0 (by omega)) (cJOrder2 (by omega)) (cJWorld (by omega)) ⟨hl.1, fun hn => by
  obtain ⟨e1, e2⟩ := hin hn
  exact ⟨.o, e1, hlt, e2⟩⟩ hl.2 (by have := slice_max Tryz.underlying80 h1 hr; omega) b0
theorem lifted (os : Os) (started : os.Started) (H : Type) (enc : TypeId × Value → H) :
  ReturnsInHanded {} Tryz.checked os 6 .any (Rows.judgeOrdersSpec.pre6 enc Tryz.prog Tryz.f6 Rows.judgeOrdersRow.domain false) (Rows.judgeOrdersSpec.post enc Tryz.prog Tryz.f6 false true false false) :=
 law_lifted (C := Tryz.checked) own started (by kernel_rfl) Tryz.func6
   (ChangeSpec.witness6 (enc := enc) (C := Tryz.checked) false ⟨#[], #[.int .u8 0, .slice none 0 0], []⟩ 8 (by kernel_rfl) (by kernel_rfl) (by kernel_rfl) (by kernel_rfl))
   (by kernel_rfl) (by intro t ht; rw [Tryz.params6] at ht; simp at ht; rcases ht with rfl | rfl <;> exact ⟨by kernel_rfl, by decide +kernel⟩) (tb := 4) rfl Tryz.underlying4 rfl
   (fun ds h => by match ds, h with | [_, _], _ => rfl) walk
theorem proved : Rows.JudgeOrdersSaid :=
 OpenClaim.holds_of_wide 6 Tryz.f6 rfl rfl rfl rfl rfl rfl rfl ⟨rfl, rfl, rfl, rfl, rfl⟩ rfl rfl rfl rfl rfl (by kernel_rfl) Tryz.func6 (by kernel_rfl)
  (of_decide_eq_true (by kernel_rfl)) (by unfold Func.isWrapper; rw [if_neg (of_decide_eq_false (by kernel_rfl))]; exact ⟨rfl, rfl⟩)
  (fun os started H enc _ => lifted os started H enc)
end
end Go.Proofs.YtmdidmoffcinjaaGreat.judgeOrders
