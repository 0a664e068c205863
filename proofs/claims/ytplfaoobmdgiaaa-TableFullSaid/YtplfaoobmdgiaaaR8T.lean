/- TableFull: as many things as there may be, and one more: for every input. No condition. -/
import Derived.Test.YtplfaoobmdgiaaaBT1
import Derived.Test.YtplfaoobmdgiaaaKeysR8
import Derived.Test.YtplfaoobmdgiaaaVwMono
import Derived.Test.YtplfaoobmdgiaaaVwSort
import Derived.Test.YtplfaoobmdgiaaaCloneR8
import Derived.WalkKit
import Derived.Test.YtplfaoobmdgiaaaRows
namespace Go.Proofs.Ytplfaoobmdgiaaa.tableFull
open Go Go.Shelf Go.Vw Go.Vw.Ev Go.ChangeShapes Go.WideShapes Go.ChangeAt Go.RowKit
set_option maxRecDepth 100000
set_option linter.unusedVariables false
theorem own : ownKnob Try.prog.godebug = none := by kernel_rfl
noncomputable section
theorem u8_nat {a : Int} (w : (Lit.int .u8 a).wf = true) : ∃ n : Nat, a = Int.ofNat n ∧ n ≤ 255 := by
  have := bounds_u8 w
  exact ⟨a.toNat, by simp; omega, by omega⟩
theorem tm (a k : Nat) : Int.tmod (Int.ofNat a) (Int.ofNat k) = Int.tmod (Int.ofNat (a % k)) (Int.ofNat k) := by
  show Int.ofNat (a % k) = Int.ofNat (a % k % k)
  rw [Nat.mod_mod]
def Tk (lf : Nat) : BT := (.node 67 (.node 47 (.node 34 (.node 23 (.node 13 (.leaf 12 (PK.run [] (B12 lf))) (.node 18 (.leaf 13 (PK.run [.ptr] (B13 lf))) (.leaf 18 (PK.run [.ptr, .int .i64] (B18 lf))))) (.node 31 (.leaf 23 (PK.run [.ptr, .agg] (B23 lf))) (.node 32 (.leaf 31 (PK.run [] (B31 lf))) (.leaf 32 (PK.run [] (B32 lf)))))) (.node 40 (.node 36 (.leaf 34 (PK.run [.ptr] (B34 lf))) (.node 39 (.leaf 36 (PK.run [.ptr, .agg] (B36 lf))) (.leaf 39 (PK.run [.ptr, .agg] (B39 lf))))) (.node 44 (.leaf 40 (PK.run [.ptr, .int .i64] (B40 lf))) (.node 45 (.leaf 44 (PK.run [.slice] (B44 lf))) (.leaf 45 (PK.run [.ptr] (B45 lf))))))) (.node 53 (.node 50 (.node 48 (.leaf 47 (PK.run [.ptr, .int .i64] (B47 lf))) (.node 49 (.leaf 48 (PK.run [.ptr, .int .i64] (B48 lf))) (.leaf 49 (PK.run [.ptr] (B49 lf))))) (.node 51 (.leaf 50 (PK.run [.ptr, .agg] (B50 lf))) (.node 52 (.leaf 51 (sortedB [76, 94])) (.leaf 52 (keysB 76))))) (.node 57 (.node 54 (.leaf 53 (PK.run [.ptr, .int .i64, .agg] (B53 lf))) (.node 56 (.leaf 54 (PK.run [.agg] (B54 lf))) (.leaf 56 (PK.run [.ptr, .ptr, .agg, .int .i64] (B56 lf))))) (.node 59 (.node 58 (.leaf 57 (PK.run [] (B57 lf))) (.leaf 58 (PK.run [.ptr, .slice, .ptr, .agg, .agg] (B58 lf)))) (.node 66 (.leaf 59 sortB) (.leaf 66 cloneB)))))) (.node 84 (.node 78 (.node 73 (.node 68 (.leaf 67 (PK.run [.agg] (B67 lf))) (.node 72 (.leaf 68 (PK.run [.ptr, .agg] (B68 lf))) (.leaf 72 (PK.run [.ptr, .slice] (B72 lf))))) (.node 74 (.leaf 73 (keysB 94)) (.node 77 (.leaf 74 (PK.run [.int .i64] (B74 lf))) (.leaf 77 (PK.run [.ptr, .ptr, .agg, .int .i64, .int .i64] (B77 lf)))))) (.node 81 (.node 79 (.leaf 78 (PK.run [.slice, .val] (B78 lf))) (.node 80 (.leaf 79 (PK.run [.int .i64, .ptr] (B79 lf))) (.leaf 80 (PK.run [.agg, .agg] (B80 lf))))) (.node 82 (.leaf 81 (PK.run [.agg, .int .i64] (B81 lf))) (.node 83 (.leaf 82 (PK.run [.ptr] (B82 lf))) (.leaf 83 (PK.run [.agg] (B83 lf))))))) (.node 96 (.node 90 (.node 85 (.leaf 84 (PK.run [.agg, .agg] (B84 lf))) (.node 89 (.leaf 85 (PK.run [.agg, .agg] (B85 lf))) (.leaf 89 (PK.run [.slice, .val] (B89 lf))))) (.node 91 (.leaf 90 (PK.run [.agg] (B90 lf))) (.node 95 (.leaf 91 (PK.run [.agg] (B91 lf))) (.leaf 95 (PK.run [.int .i64] (B95 lf)))))) (.node 100 (.node 98 (.leaf 96 (PK.run [.int .i64] (B96 lf))) (.node 99 (.leaf 98 (PK.run [.slice, .val] (B98 lf))) (.leaf 99 (PK.run [.slice] (B99 lf))))) (.node 113 (.node 112 (.leaf 100 (PK.run [.agg] (B100 lf))) (.leaf 112 (PK.run [.slice, .val] (B112 lf)))) (.node 120 (.leaf 113 (PK.run [.int .u32] (B113 lf))) (.leaf 120 (PK.run [.int .u32] (B120 lf)))))))))
theorem Tk_ok (lf : Nat) (w0 : World) : (Tk lf).ok Try.prog w0 := (okn (okn (okn (okn (okn (okl (O12 lf w0)) (okn (okl (O13 lf w0)) (okl (O18 lf w0)))) (okn (okl (O23 lf w0)) (okn (okl (O31 lf w0)) (okl (O32 lf w0))))) (okn (okn (okl (O34 lf w0)) (okn (okl (O36 lf w0)) (okl (O39 lf w0)))) (okn (okl (O40 lf w0)) (okn (okl (O44 lf w0)) (okl (O45 lf w0)))))) (okn (okn (okn (okl (O47 lf w0)) (okn (okl (O48 lf w0)) (okl (O49 lf w0)))) (okn (okl (O50 lf w0)) (okn (okl (okSorted w0)) (okl (okKeys52 w0))))) (okn (okn (okl (O53 lf w0)) (okn (okl (O54 lf w0)) (okl (O56 lf w0)))) (okn (okn (okl (O57 lf w0)) (okl (O58 lf w0))) (okn (okl (okb_sort (AnyM.slices_Sort_int Try.sort0) (AnyM.slices_Sort_int_none Try.sort0))) (okl (okClone66 w0))))))) (okn (okn (okn (okn (okl (O67 lf w0)) (okn (okl (O68 lf w0)) (okl (O72 lf w0)))) (okn (okl (okKeys73 w0)) (okn (okl (O74 lf w0)) (okl (O77 lf w0))))) (okn (okn (okl (O78 lf w0)) (okn (okl (O79 lf w0)) (okl (O80 lf w0)))) (okn (okl (O81 lf w0)) (okn (okl (O82 lf w0)) (okl (O83 lf w0)))))) (okn (okn (okn (okl (O84 lf w0)) (okn (okl (O85 lf w0)) (okl (O89 lf w0)))) (okn (okl (O90 lf w0)) (okn (okl (O91 lf w0)) (okl (O95 lf w0))))) (okn (okn (okl (O96 lf w0)) (okn (okl (O98 lf w0)) (okl (O99 lf w0)))) (okn (okn (okl (O100 lf w0)) (okl (O112 lf w0))) (okn (okl (O113 lf w0)) (okl (O120 lf w0))))))))
theorem known_ev : ((Tk 20000).call 60) 31 [] H0 isT = true := by kernel_rfl
def T (lf : Nat) : BT := (.node 67 (.node 39 (.node 31 (.node 12 (.leaf 10 (PK.run [.int .u8] (B10 lf))) (.node 18 (.leaf 12 (PK.run [] (B12 lf))) (.leaf 18 (PK.run [.ptr, .int .i64] (B18 lf))))) (.node 32 (.leaf 31 knownB) (.node 36 (.leaf 32 (PK.run [] (B32 lf))) (.leaf 36 (PK.run [.ptr, .agg] (B36 lf)))))) (.node 53 (.node 40 (.leaf 39 (PK.run [.ptr, .agg] (B39 lf))) (.node 49 (.leaf 40 (PK.run [.ptr, .int .i64] (B40 lf))) (.leaf 49 (PK.run [.ptr] (B49 lf))))) (.node 56 (.node 54 (.leaf 53 (PK.run [.ptr, .int .i64, .agg] (B53 lf))) (.leaf 54 (PK.run [.agg] (B54 lf)))) (.node 57 (.leaf 56 (PK.run [.ptr, .ptr, .agg, .int .i64] (B56 lf))) (.leaf 57 (PK.run [] (B57 lf))))))) (.node 82 (.node 78 (.node 68 (.leaf 67 (PK.run [.agg] (B67 lf))) (.node 77 (.leaf 68 (PK.run [.ptr, .agg] (B68 lf))) (.leaf 77 (PK.run [.ptr, .ptr, .agg, .int .i64, .int .i64] (B77 lf))))) (.node 80 (.node 79 (.leaf 78 (PK.run [.slice, .val] (B78 lf))) (.leaf 79 (PK.run [.int .i64, .ptr] (B79 lf)))) (.node 81 (.leaf 80 (PK.run [.agg, .agg] (B80 lf))) (.leaf 81 (PK.run [.agg, .int .i64] (B81 lf)))))) (.node 91 (.node 89 (.leaf 82 (PK.run [.ptr] (B82 lf))) (.node 90 (.leaf 89 (PK.run [.slice, .val] (B89 lf))) (.leaf 90 (PK.run [.agg] (B90 lf))))) (.node 99 (.node 98 (.leaf 91 (PK.run [.agg] (B91 lf))) (.leaf 98 (PK.run [.slice, .val] (B98 lf)))) (.node 112 (.leaf 99 (PK.run [.slice] (B99 lf))) (.leaf 112 (PK.run [.slice, .val] (B112 lf))))))))
theorem T_ok (lf : Nat) (w0 : World) : (T lf).ok Try.prog w0 := (okn (okn (okn (okn (okl (O10 lf w0)) (okn (okl (O12 lf w0)) (okl (O18 lf w0)))) (okn (okl (okb_known (BT.call_ok (Tk_ok 20000 w0) 60) known_ev)) (okn (okl (O32 lf w0)) (okl (O36 lf w0))))) (okn (okn (okl (O39 lf w0)) (okn (okl (O40 lf w0)) (okl (O49 lf w0)))) (okn (okn (okl (O53 lf w0)) (okl (O54 lf w0))) (okn (okl (O56 lf w0)) (okl (O57 lf w0)))))) (okn (okn (okn (okl (O67 lf w0)) (okn (okl (O68 lf w0)) (okl (O77 lf w0)))) (okn (okn (okl (O78 lf w0)) (okl (O79 lf w0))) (okn (okl (O80 lf w0)) (okl (O81 lf w0))))) (okn (okn (okl (O82 lf w0)) (okn (okl (O89 lf w0)) (okl (O90 lf w0)))) (okn (okn (okl (O91 lf w0)) (okl (O98 lf w0))) (okn (okl (O99 lf w0)) (okl (O112 lf w0)))))))
theorem T_mo (lf : Nat) : (T lf).mo := (mon (mon (mon (mon (mol (M10 lf)) (mon (mol (M12 lf)) (mol (M18 lf)))) (mon (mol mo_known) (mon (mol (M32 lf)) (mol (M36 lf))))) (mon (mon (mol (M39 lf)) (mon (mol (M40 lf)) (mol (M49 lf)))) (mon (mon (mol (M53 lf)) (mol (M54 lf))) (mon (mol (M56 lf)) (mol (M57 lf)))))) (mon (mon (mon (mol (M67 lf)) (mon (mol (M68 lf)) (mol (M77 lf)))) (mon (mon (mol (M78 lf)) (mol (M79 lf))) (mon (mol (M80 lf)) (mol (M81 lf))))) (mon (mon (mol (M82 lf)) (mon (mol (M89 lf)) (mol (M90 lf)))) (mon (mon (mol (M91 lf)) (mol (M98 lf))) (mon (mol (M99 lf)) (mol (M112 lf)))))))
def R10 (cl : Cl) (n11 : Int) (p13 : AP) (n28 : Int) (h27 : AH) (K : AV → AH → Bool) : Bool := w64 (n11) fun n29 => fI (Int.tmod n29 (Int.ofNat 200)) fun n30 => w64 (iMul (Int.ofNat 3) n30) fun n31 => fL ((AS.int .i64 n31) :: (ap (α := AS) [AS.int .i64 (Int.ofNat 63), AS.int .i64 (Int.ofNat 63)] [AS.int .i64 (Int.ofNat 0), AS.str [], AS.int .i64 (Int.ofNat 0), AS.str [], AS.int .i64 (Int.ofNat 0), AS.str [], AS.int .i64 (Int.ofNat 0), AS.str []])) fun cs32 => cl 39 [AV.s (AS.ptr p13), AV.agg cs32] h27 fun r33 h34 => arI r33 .i64 fun n35 => w64 (n11) fun n36 => fI (Int.tmod n36 (Int.ofNat 200)) fun n37 => w64 (iMul (Int.ofNat 3) n37) fun n38 => cl 40 [AV.s (AS.ptr p13), AV.s (AS.int .i64 n38)] h34 fun r39 h40 => arI r39 .i64 fun n41 => cl 36 [AV.s (AS.ptr p13), AV.agg [AS.int .i64 (Int.ofNat 1), AS.int .i64 (Int.ofNat 0), AS.int .i64 (Int.ofNat 0), AS.int .i64 (Int.ofNat 0), AS.str [], AS.int .i64 (Int.ofNat 0), AS.str [], AS.int .i64 (Int.ofNat 0), AS.str [], AS.int .i64 (Int.ofNat 0), AS.str []]] h40 fun r42 h43 => arI r42 .i64 fun n44 => fB (iEq n28 (Int.ofNat 16)) fun b45 => ifA b45 (fB (iEq n35 (Int.ofNat 0)) fun b46 => ifA b46 (fB (iEq n41 (Int.ofNat 0)) fun b47 => ifA b47 (fB (iEq n44 (Int.ofNat 0)) fun b48 => ifA b48 (cl 49 [AV.s (AS.ptr p13)] h43 fun r49 h50 => arI r49 .i64 fun n51 => fB (iEq n51 (Int.ofNat 200)) fun b52 => K (AV.s (AS.bool b52)) h50) (K (AV.s (AS.bool false)) h43)) (K (AV.s (AS.bool false)) h43)) (K (AV.s (AS.bool false)) h43)) (K (AV.s (AS.bool false)) h43)
def S10 (lf : Nat) (cl : Cl) (Z : AP → Int → AH → Bool) (H : AH) (K : AV → AH → Bool) : Bool := cl 31 [] H fun r1 h2 => arB r1 fun b3 => fB (!b3) fun b4 => ifA b4 (K (AV.s (AS.bool false)) h2) (cl 32 [] h2 fun r5 h6 => asP r5 fun p7 => (loopX lf (fun (self10 : (Int × AP × Int) → AH → Bool) (x8 : Int × AP × Int) (h9 : AH) => pR x8 fun n11 r12 => pR r12 fun p13 r14 => fB (iLt r14 (Int.ofNat 200)) fun b16 => ifA b16 (w64 (iMul (Int.ofNat 3) r14) fun n17 => fI (Int.tmod r14 (Int.ofNat 64)) fun n18 => w64 (Int.tdiv r14 (Int.ofNat 64)) fun n19 => fL ((AS.int .i64 n17) :: (ap (α := AS) [AS.int .i64 n18, AS.int .i64 n19] [AS.int .i64 (Int.ofNat 0), AS.str [], AS.int .i64 (Int.ofNat 0), AS.str [], AS.int .i64 (Int.ofNat 0), AS.str [], AS.int .i64 (Int.ofNat 0), AS.str []])) fun cs20 => cl 36 [AV.s (AS.ptr p13), AV.agg cs20] h9 fun r21 h22 => arI r21 .i64 fun n23 => fB (!iEq n23 (Int.ofNat 0)) fun b24 => ifA b24 (K (AV.s (AS.bool false)) h22) (w64 (iAdd r14 (Int.ofNat 1)) fun n25 => self10 (n11, p13, n25) h22)) (cl 36 [AV.s (AS.ptr p13), AV.agg [AS.int .i64 (Int.ofNat 1), AS.int .i64 (Int.ofNat 0), AS.int .i64 (Int.ofNat 0), AS.int .i64 (Int.ofNat 0), AS.str [], AS.int .i64 (Int.ofNat 0), AS.str [], AS.int .i64 (Int.ofNat 0), AS.str [], AS.int .i64 (Int.ofNat 0), AS.str []]] h9 fun r26 h27 => arI r26 .i64 fun n28 => Z p13 n28 h27)) ((Int.ofNat 0), p7, (Int.ofNat 0)) h6))
theorem rel (lf : Nat) (cl : Cl) (q0 : Int) (H : AH) (K : AV → AH → Bool) : B10 lf cl q0 H K = S10 lf cl (fun p13 n28 h27 => R10 cl q0 p13 n28 h27 K) H K := by
  unfold B10 S10
  refine congrArg _ (funext fun r1 => funext fun h2 => ?_)
  refine congrArg _ (funext fun b3 => ?_)
  refine congrArg _ (funext fun b4 => ?_)
  refine congrArg _ ?_
  refine congrArg _ (funext fun r5 => funext fun h6 => ?_)
  refine congrArg _ (funext fun p7 => ?_)
  refine loopX_rel (fun x y => x.1 = q0 ∧ x.2 = y.2) ?_ lf _ _ _ ⟨rfl, rfl⟩
  rintro s1 s2 hs ⟨u, x⟩ ⟨v, y⟩ H ⟨h1, h2⟩
  simp only at h1 h2
  subst h1 h2
  obtain ⟨x1, x2⟩ := x
  have hs' : ∀ z H, s1 (u, z) H = s2 (v, z) H := fun z H => hs _ _ _ ⟨rfl, rfl⟩
  simp only [pR_, hs', R10]
theorem S10_m {lf : Nat} {cl : Cl} (hcl : MonoC cl) {Z Z' : AP → Int → AH → Bool} {H : AH} {K : AV → AH → Bool} (hz : ∀ a b c, Z a b c = true → Z' a b c = true) : S10 lf cl Z H K = true → S10 lf cl Z' H K = true := by
  unfold S10
  repeat' (first
    | exact hz _ _ _ | exact hs _ _ | refine hcl _ _ _ _ _ fun _ _ => ?_ | refine arB_m fun _ => ?_ | refine arI_m fun _ => ?_ | refine asP_m fun _ => ?_ | refine asG_m fun _ => ?_ | refine asSl_m fun _ _ _ _ => ?_ | refine tup2_m fun _ _ => ?_ | refine tup3_m fun _ _ _ => ?_
    | refine fB_m fun _ => ?_ | refine fI_m fun _ => ?_ | refine fN_m fun _ => ?_ | refine fL_m fun _ => ?_ | refine w64_m fun _ => ?_ | refine wrapK_m fun _ => ?_ | refine ifA_m ?_ ?_ | refine okK_m ?_ | refine nilK_m fun _ _ => ?_ | refine idxK_m fun _ => ?_ | refine natK_m fun _ => ?_ | refine newK_m fun _ _ => ?_ | refine wrK_m fun _ => ?_
    | refine rowK_m fun _ => ?_ | refine ldI_m fun _ => ?_ | refine ldB_m fun _ => ?_ | refine ldP_m fun _ => ?_ | refine ldStr_m fun _ => ?_ | refine ldG_m fun _ => ?_ | refine ldSl_m fun _ _ _ _ => ?_ | refine ldM_m fun _ => ?_ | refine sto1_m fun _ => ?_ | refine stoN_m fun _ => ?_ | refine elK_m fun _ => ?_ | refine appA_m fun _ _ _ _ _ => ?_ | refine slcA_m fun _ _ _ _ => ?_
    | refine pR_m fun _ _ => ?_ | refine loopX_m (fun s s' hs x H => ?_) _ _ _ | exact id)
theorem ev_0 : S10 20000 ((T 20000).call 60) (fun p13 n28 h27 => (List.range 64).all fun n => R10 ((T 20000).call 60) (Int.ofNat (Nat.add 0 n)) p13 n28 h27 isT) H0 isT = true := by kernel_rfl
theorem ev_64 : S10 20000 ((T 20000).call 60) (fun p13 n28 h27 => (List.range 64).all fun n => R10 ((T 20000).call 60) (Int.ofNat (Nat.add 64 n)) p13 n28 h27 isT) H0 isT = true := by kernel_rfl
theorem ev_128 : S10 20000 ((T 20000).call 60) (fun p13 n28 h27 => (List.range 64).all fun n => R10 ((T 20000).call 60) (Int.ofNat (Nat.add 128 n)) p13 n28 h27 isT) H0 isT = true := by kernel_rfl
theorem ev_192 : S10 20000 ((T 20000).call 60) (fun p13 n28 h27 => (List.range 64).all fun n => R10 ((T 20000).call 60) (Int.ofNat (Nat.add 192 n)) p13 n28 h27 isT) H0 isT = true := by kernel_rfl
theorem all_ev (a : Nat) (ha : a ≤ 255) : B10 20000 ((T 20000).call 60) (Int.ofNat a) H0 isT = true := by
  rw [rel]
  have key : ∀ k : Nat, S10 20000 ((T 20000).call 60) (fun p13 n28 h27 => (List.range 64).all fun n => R10 ((T 20000).call 60) (Int.ofNat (Nat.add k n)) p13 n28 h27 isT) H0 isT = true → k ≤ a → a < k + 64 →
      S10 20000 ((T 20000).call 60) (fun p13 n28 h27 => R10 ((T 20000).call 60) (Int.ofNat a) p13 n28 h27 isT) H0 isT = true := by
    intro k h h1 h2
    refine S10_m (BT.call_m (T_mo 20000) 60) (fun p13 n28 h27 hz => ?_) h
    have := (List.all_eq_true.1 hz) (a - k) (List.mem_range.2 (by omega))
    rwa [show Nat.add k (a - k) = a from by simp only [Nat.add_eq]; omega] at this
  rcases (by omega : (0 ≤ a ∧ a < 64) ∨ (64 ≤ a ∧ a < 128) ∨ (128 ≤ a ∧ a < 192) ∨ (192 ≤ a ∧ a < 256)) with h | h | h | h
  · exact key 0 ev_0 (by omega) (by omega)
  · exact key 64 ev_64 (by omega) (by omega)
  · exact key 128 ev_128 (by omega) (by omega)
  · exact key 192 ev_192 (by omega) (by omega)
theorem run_q (b : Cl → Int → AH → (AV → AH → Bool) → Bool) (cl : Cl) (n0 : Int) (H : AH) (K : AV → AH → Bool) : PK.run [.int .u8] b cl [.s (.int .u8 n0)] H K = b cl n0 H K := rfl
theorem walk : Walk Try.prog 10 Try.f10 := by
  intro H enc W base args ds p hval hA _
  rw [Try.params10] at hA hval
  obtain ⟨v0, vs0, d0, ds0, p0, q0, hargs, rfl, rfl, h0, r0⟩ := trodAll_cons hA
  obtain ⟨rfl, rfl, rfl⟩ := trodAll_nil r0
  obtain rfl : args = #[v0] := by cases args; simp_all
  obtain ⟨a0, rfl, rfl, rfl, w0⟩ := open_int Try.underlying5 (hval 0 5 v0 rfl rfl) h0
  obtain ⟨n0, rfl, l0⟩ := u8_nat w0
  refine calls_of_okb (O10 20000 W) (BT.call_ok (T_ok 20000 W) 60) (avs := [.s (.int .u8 (Int.ofNat n0))]) (vals := [.int .u8 (Int.ofNat n0)]) (by simp [RVL, RV, RS]) (RH.empty _) (view0 W) ?_
  rw [run_q]
  exact all_ev n0 l0
theorem lifted (os : Os) (started : os.Started) (H : Type) (enc : TypeId × Value → H) :
    ReturnsInHanded {} Try.checked os 10 .any (Rows.tableFullSpec.pre6 enc Try.prog Try.f10 Rows.tableFullRow.domain false) (Rows.tableFullSpec.post enc Try.prog Try.f10 false true false false) :=
  law_lifted (C := Try.checked) own started (by kernel_rfl) Try.func10
      (ChangeSpec.witness6 (enc := enc) (C := Try.checked) false ⟨#[], #[.int .u8 0], []⟩ 8 (by kernel_rfl) (by kernel_rfl) (by kernel_rfl) (by kernel_rfl))
      (by kernel_rfl) (by intro t ht; rw [Try.params10] at ht; simp at ht; subst ht; exact ⟨by kernel_rfl, by decide +kernel⟩) (tb := 4) rfl Try.underlying4 rfl
      (fun ds h => by match ds, h with | [_], _ => rfl) walk
theorem proved : Rows.TableFullSaid :=
  OpenClaim.holds_of_wide 10 Try.f10 rfl rfl rfl rfl rfl rfl rfl ⟨rfl, rfl, rfl, rfl, rfl⟩ rfl rfl rfl rfl rfl (by kernel_rfl) Try.func10 (by kernel_rfl)
    (of_decide_eq_true (by kernel_rfl)) (by unfold Func.isWrapper; rw [if_neg (of_decide_eq_false (by kernel_rfl))]; exact ⟨rfl, rfl⟩)
    (fun os started H enc _ => lifted os started H enc)
end
end Go.Proofs.Ytplfaoobmdgiaaa.tableFull
