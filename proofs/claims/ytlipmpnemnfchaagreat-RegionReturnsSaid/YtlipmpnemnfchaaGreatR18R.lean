/- RegionReturns: a thing that leaves and comes back within a beat never was away: for every input. No condition. -/
import Derived.Test.YtlipmpnemnfchaaGreatREa
import Derived.Test.YtlipmpnemnfchaaGreatREa
import Derived.Test.YtlipmpnemnfchaaGreatREb
import Derived.Test.YtlipmpnemnfchaaGreatREb
import Derived.Test.YtlipmpnemnfchaaGreatREc
import Derived.Test.YtlipmpnemnfchaaGreatREc
import Derived.Test.YtlipmpnemnfchaaGreatREd
import Derived.Test.YtlipmpnemnfchaaGreatREd
import Derived.Test.YtlipmpnemnfchaaGreatREe
import Derived.Test.YtlipmpnemnfchaaGreatREe
import Derived.Test.YtlipmpnemnfchaaGreatREf
import Derived.Test.YtlipmpnemnfchaaGreatREf
import Derived.Test.YtlipmpnemnfchaaGreatREg
import Derived.Test.YtlipmpnemnfchaaGreatREg
import Derived.Test.YtlipmpnemnfchaaGreatREh
import Derived.Test.YtlipmpnemnfchaaGreatREh
import Derived.WalkKit
import Derived.Test.YtlipmpnemnfchaaGreatRows
namespace Go.Proofs.YtlipmpnemnfchaaGreat.regionReturns
open Go Go.Vw Go.Vw.Ev Go.ChangeShapes Go.WideShapes Go.ChangeAt Go.RowKit
set_option maxRecDepth 100000
set_option linter.unusedVariables false
theorem own : ownKnob Tryz.prog.godebug = none := by kernel_rfl
noncomputable section
theorem u8_nat {a : Int} (w : (Lit.int .u8 a).wf = true) : ∃ n : Nat, a = Int.ofNat n ∧ n ≤ 255 := by
  have := bounds_u8 w
  exact ⟨a.toNat, by simp; omega, by omega⟩
theorem tm_ (a k : Nat) : Int.tmod (Int.ofNat a) (Int.ofNat k) = Int.tmod (Int.ofNat (a % k)) (Int.ofNat k) := by
  show Int.ofNat (a % k) = Int.ofNat (a % k % k)
  rw [Nat.mod_mod]
theorem grid : ∀ y : Nat, y < 16 → ∀ x : Nat, x < 16 → G9 20000 ((T 20000).call 60) (Int.ofNat x) (Int.ofNat y) H0 isT = true
  | 0, _ => row0
  | 1, _ => row1
  | 2, _ => row2
  | 3, _ => row3
  | 4, _ => row4
  | 5, _ => row5
  | 6, _ => row6
  | 7, _ => row7
  | 8, _ => row8
  | 9, _ => row9
  | 10, _ => row10
  | 11, _ => row11
  | 12, _ => row12
  | 13, _ => row13
  | 14, _ => row14
  | 15, _ => row15
  | y + 16, h => absurd h (by omega)
theorem all_ev (a : Nat) (_ : a ≤ 255) (b : Nat) (_ : b ≤ 255) (c : Nat) (_ : c ≤ 255) : B9 20000 ((T 20000).call 60) (Int.ofNat a) (Int.ofNat b) (Int.ofNat c) H0 isT = true := by
  rw [less]
  exact imp (BT.call_m (T_mo 20000) 60) (grid _ (Nat.mod_lt _ (by decide)) _ (Nat.mod_lt _ (by decide)))
theorem run_q (b : Cl → Int → Int → Int → AH → (AV → AH → Bool) → Bool) (cl : Cl) (n0 : Int) (n1 : Int) (n2 : Int) (H : AH) (K : AV → AH → Bool) : PK.run [.int .u8, .int .u8, .int .u8] b cl [.s (.int .u8 n0), .s (.int .u8 n1), .s (.int .u8 n2)] H K = b cl n0 n1 n2 H K := rfl
theorem walk : Walk Tryz.prog 9 Tryz.f9 := by
  intro H enc W base args ds p hval hA _
  rw [Tryz.params9] at hA hval
  obtain ⟨v0, vs0, d0, ds0, p0, q0, hargs, rfl, rfl, h0, r0⟩ := trodAll_cons hA
  obtain ⟨v1, vs1, d1, ds1, p1, q1, rfl, rfl, rfl, h1, r1⟩ := trodAll_cons r0
  obtain ⟨v2, vs2, d2, ds2, p2, q2, rfl, rfl, rfl, h2, r2⟩ := trodAll_cons r1
  obtain ⟨rfl, rfl, rfl⟩ := trodAll_nil r2
  obtain rfl : args = #[v0, v1, v2] := by cases args; simp_all
  obtain ⟨a0, rfl, rfl, rfl, w0⟩ := open_int Tryz.underlying5 (hval 0 5 v0 rfl rfl) h0
  obtain ⟨a1, rfl, rfl, rfl, w1⟩ := open_int Tryz.underlying5 (hval 1 5 v1 rfl rfl) h1
  obtain ⟨a2, rfl, rfl, rfl, w2⟩ := open_int Tryz.underlying5 (hval 2 5 v2 rfl rfl) h2
  obtain ⟨n0, rfl, l0⟩ := u8_nat w0
  obtain ⟨n1, rfl, l1⟩ := u8_nat w1
  obtain ⟨n2, rfl, l2⟩ := u8_nat w2
  refine calls_of_okb (O9 20000 W) (BT.call_ok (T_ok 20000 W) 60) (avs := [.s (.int .u8 (Int.ofNat n0)), .s (.int .u8 (Int.ofNat n1)), .s (.int .u8 (Int.ofNat n2))]) (vals := [.int .u8 (Int.ofNat n0), .int .u8 (Int.ofNat n1), .int .u8 (Int.ofNat n2)]) (by simp [RVL, RV, RS]) (RH.empty _) (view0 W) ?_
  rw [run_q]
  exact all_ev n0 l0 n1 l1 n2 l2
theorem lifted (os : Os) (started : os.Started) (H : Type) (enc : TypeId × Value → H) :
    ReturnsInHanded {} Tryz.checked os 9 .any (Rows.regionReturnsSpec.pre6 enc Tryz.prog Tryz.f9 Rows.regionReturnsRow.domain false) (Rows.regionReturnsSpec.post enc Tryz.prog Tryz.f9 false true false false) :=
  law_lifted (C := Tryz.checked) own started (by kernel_rfl) Tryz.func9
      (ChangeSpec.witness6 (enc := enc) (C := Tryz.checked) false ⟨#[], #[.int .u8 0, .int .u8 0, .int .u8 0], []⟩ 8 (by kernel_rfl) (by kernel_rfl) (by kernel_rfl) (by kernel_rfl))
      (by kernel_rfl) (by intro t ht; rw [Tryz.params9] at ht; simp at ht; subst ht; exact ⟨by kernel_rfl, by decide +kernel⟩) (tb := 4) rfl Tryz.underlying4 rfl
      (fun ds h => by match ds, h with | [_, _, _], _ => rfl) walk
theorem proved : Rows.RegionReturnsSaid :=
  OpenClaim.holds_of_wide 9 Tryz.f9 rfl rfl rfl rfl rfl rfl rfl ⟨rfl, rfl, rfl, rfl, rfl⟩ rfl rfl rfl rfl rfl (by kernel_rfl) Tryz.func9 (by kernel_rfl)
    (of_decide_eq_true (by kernel_rfl)) (by unfold Func.isWrapper; rw [if_neg (of_decide_eq_false (by kernel_rfl))]; exact ⟨rfl, rfl⟩)
    (fun os started H enc _ => lifted os started H enc)
end
end Go.Proofs.YtlipmpnemnfchaaGreat.regionReturns
