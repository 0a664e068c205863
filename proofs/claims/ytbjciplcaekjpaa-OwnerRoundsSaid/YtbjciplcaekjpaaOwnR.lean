/- OwnerRounds: a cell that goes round all servers comes back, its epoch as many more: for every input. No condition. -/
import Derived.Test.YtbjciplcaekjpaaOwnRB
import Derived.Test.YtbjciplcaekjpaaVwUse
import Derived.WalkKit
import Derived.Test.YtbjciplcaekjpaaRows
namespace Go.Proofs.Ytbjciplcaekjpaa.ownerRounds
open Go Go.Vw Go.Vw.Ev Go.ChangeShapes Go.WideShapes Go.ChangeAt Go.RowKit
set_option maxRecDepth 100000
theorem own : ownKnob Try.prog.godebug = none := by kernel_rfl
theorem u8_nat {a : Int} (w : (Lit.int .u8 a).wf = true) : ∃ n : Nat, a = Int.ofNat n := by
  have := bounds_u8 w
  exact ⟨a.toNat, by simp; omega⟩
noncomputable section
def Tk (lf : Nat) : BT := (.node 25 (.node 19 (.node 17 (.leaf 16 (PK.run [] (B16 lf))) (.leaf 17 (PK.run [.int .i64] (B17 lf)))) (.node 20 (.leaf 19 (PK.run [.ptr] (B19 lf))) (.node 23 (.leaf 20 (PK.run [.ptr, .int .i64, .int .i64, .int .i64] (B20 lf))) (.leaf 23 (PK.run [.ptr, .int .i64] (B23 lf)))))) (.node 28 (.node 27 (.leaf 25 (PK.run [.int .i64, .slice] (B25 lf))) (.leaf 27 (PK.run [.ptr] (B27 lf)))) (.node 29 (.leaf 28 (PK.run [.ptr] (B28 lf))) (.node 30 (.leaf 29 (PK.run [.ptr, .int .i64] (B29 lf))) (.leaf 30 (PK.run [.int .i64] (B30 lf)))))))
theorem Tk_ok (lf : Nat) (w0 : World) : (Tk lf).ok Try.prog w0 := (okn (okn (okn (okl (O16 lf w0)) (okl (O17 lf w0))) (okn (okl (O19 lf w0)) (okn (okl (O20 lf w0)) (okl (O23 lf w0))))) (okn (okn (okl (O25 lf w0)) (okl (O27 lf w0))) (okn (okl (O28 lf w0)) (okn (okl (O29 lf w0)) (okl (O30 lf w0))))))
theorem known_ev : ((Tk 20000).call 8) 16 [] H0 isT = true := by kernel_rfl
def T (lf : Nat) : BT := (.node 20 (.node 16 (.leaf 8 (PK.run [.int .u8, .int .u8, .int .u8] (B8 lf))) (.node 17 (.leaf 16 knownB) (.leaf 17 (PK.run [.int .i64] (B17 lf))))) (.node 29 (.leaf 20 (PK.run [.ptr, .int .i64, .int .i64, .int .i64] (B20 lf))) (.node 30 (.leaf 29 (PK.run [.ptr, .int .i64] (B29 lf))) (.leaf 30 (PK.run [.int .i64] (B30 lf))))))
theorem T_ok (lf : Nat) (w0 : World) : (T lf).ok Try.prog w0 := (okn (okn (okl (O8 lf w0)) (okn (okl (okb_known (BT.call_ok (Tk_ok 20000 w0) 8) known_ev)) (okl (O17 lf w0)))) (okn (okl (O20 lf w0)) (okn (okl (O29 lf w0)) (okl (O30 lf w0)))))
theorem some_ev : ((List.range 3).all fun a => (List.range 16).all fun b => (List.range 5).all fun c => B8 20000 ((T 20000).call 8) (Int.ofNat a) (Int.ofNat b) (Int.ofNat c) H0 isT) = true := by kernel_rfl
theorem tm (a k : Nat) : Int.tmod (Int.ofNat a) (Int.ofNat k) = Int.tmod (Int.ofNat (a % k)) (Int.ofNat k) := by
  show Int.ofNat (a % k) = Int.ofNat (a % k % k)
  rw [Nat.mod_mod]
theorem less (cl : Cl) (a b c : Nat) (H : AH) (K : AV → AH → Bool) :
    B8 20000 cl (Int.ofNat a) (Int.ofNat b) (Int.ofNat c) H K = B8 20000 cl (Int.ofNat (a % 3)) (Int.ofNat (b % 16)) (Int.ofNat (c % 5)) H K := by
  unfold B8
  rw [tm a 3, tm b 16, tm c 5]
theorem all_ev (a b c : Nat) : B8 20000 ((T 20000).call 8) (Int.ofNat a) (Int.ofNat b) (Int.ofNat c) H0 isT = true := by
  rw [less]
  have h := some_ev
  simp only [List.all_eq_true, List.mem_range] at h
  exact h (a % 3) (Nat.mod_lt _ (by decide)) (b % 16) (Nat.mod_lt _ (by decide)) (c % 5) (Nat.mod_lt _ (by decide))

theorem walk : Walk Try.prog 8 Try.f8 := by
  intro H enc W base args ds p hval hA _
  rw [Try.params8] at hA hval
  obtain ⟨v0, vs0, d0, ds0, p0, q0, hargs, rfl, rfl, h0, r0⟩ := trodAll_cons hA
  obtain ⟨v1, vs1, d1, ds1, p1, q1, rfl, rfl, rfl, h1, r1⟩ := trodAll_cons r0
  obtain ⟨v2, vs2, d2, ds2, p2, q2, rfl, rfl, rfl, h2, r2⟩ := trodAll_cons r1
  obtain ⟨rfl, rfl, rfl⟩ := trodAll_nil r2
  obtain rfl : args = #[v0, v1, v2] := by cases args; simp_all
  obtain ⟨a0, rfl, rfl, rfl, w0⟩ := open_int Try.underlying5 (hval 0 5 v0 rfl rfl) h0
  obtain ⟨a1, rfl, rfl, rfl, w1⟩ := open_int Try.underlying5 (hval 1 5 v1 rfl rfl) h1
  obtain ⟨a2, rfl, rfl, rfl, w2⟩ := open_int Try.underlying5 (hval 2 5 v2 rfl rfl) h2
  obtain ⟨n0, rfl⟩ := u8_nat w0
  obtain ⟨n1, rfl⟩ := u8_nat w1
  obtain ⟨n2, rfl⟩ := u8_nat w2
  refine calls_of_okb (O8 20000 W) (BT.call_ok (T_ok 20000 W) 8) (avs := [.s (.int .u8 (Int.ofNat n0)), .s (.int .u8 (Int.ofNat n1)), .s (.int .u8 (Int.ofNat n2))]) (vals := [.int .u8 (Int.ofNat n0), .int .u8 (Int.ofNat n1), .int .u8 (Int.ofNat n2)]) (by simp [RVL, RV, RS]) (RH.empty _) (view0 W) ?_
  exact (PK.go_int .u8 [.int .u8, .int .u8] (B8 20000 ((T 20000).call 8)) _ _ _ _).trans ((PK.go_int .u8 [.int .u8] (B8 20000 ((T 20000).call 8) _) _ _ _ _).trans ((PK.go_int .u8 [] (B8 20000 ((T 20000).call 8) _ _) _ _ _ _).trans (all_ev n0 n1 n2)))
theorem lifted (os : Os) (started : os.Started) (H : Type) (enc : TypeId × Value → H) :
    ReturnsInHanded {} Try.checked os 8 .any (Rows.ownerRoundsSpec.pre6 enc Try.prog Try.f8 Rows.ownerRoundsRow.domain false) (Rows.ownerRoundsSpec.post enc Try.prog Try.f8 false true false false) :=
  law_lifted (C := Try.checked) own started (by kernel_rfl) Try.func8
      (ChangeSpec.witness6 (enc := enc) (C := Try.checked) false ⟨#[], #[.int .u8 0, .int .u8 0, .int .u8 0], []⟩ 8 (by kernel_rfl) (by kernel_rfl) (by kernel_rfl) (by kernel_rfl))
      (by kernel_rfl) (by intro t ht; rw [Try.params8] at ht; simp at ht; subst ht; exact ⟨by kernel_rfl, by decide +kernel⟩) (tb := 4) rfl Try.underlying4 rfl
      (fun ds h => by match ds, h with | [_, _, _], _ => rfl) walk
theorem proved : Rows.OwnerRoundsSaid :=
  OpenClaim.holds_of_wide 8 Try.f8 rfl rfl rfl rfl rfl rfl rfl ⟨rfl, rfl, rfl, rfl, rfl⟩ rfl rfl rfl rfl rfl (by kernel_rfl) Try.func8 (by kernel_rfl)
    (of_decide_eq_true (by kernel_rfl)) (by unfold Func.isWrapper; rw [if_neg (of_decide_eq_false (by kernel_rfl))]; exact ⟨rfl, rfl⟩)
    (fun os started H enc _ => lifted os started H enc)
end
end Go.Proofs.Ytbjciplcaekjpaa.ownerRounds
