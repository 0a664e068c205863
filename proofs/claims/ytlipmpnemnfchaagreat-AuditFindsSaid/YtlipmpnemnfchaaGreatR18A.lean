/- AuditFinds: regions of unlike meshes, or too far apart, do not hold: for every input. No condition. -/
import Derived.Test.YtlipmpnemnfchaaGreatBR1
import Derived.Test.YtlipmpnemnfchaaGreatBR2
import Derived.Test.YtlipmpnemnfchaaGreatBR3
import Derived.Test.YtlipmpnemnfchaaGreatBR4
import Derived.Test.YtlipmpnemnfchaaGreatKeysR18
import Derived.Test.YtlipmpnemnfchaaGreatVwDed
import Derived.WalkKit
import Derived.Test.YtlipmpnemnfchaaGreatRows
namespace Go.Proofs.YtlipmpnemnfchaaGreat.auditFinds
open Go Go.Vw Go.Vw.Ev Go.ChangeShapes Go.WideShapes Go.ChangeAt Go.RowKit
set_option maxRecDepth 100000
set_option linter.unusedVariables false
theorem own : ownKnob Tryz.prog.godebug = none := by kernel_rfl
noncomputable section
theorem u8_nat {a : Int} (w : (Lit.int .u8 a).wf = true) : ∃ n : Nat, a = Int.ofNat n ∧ n ≤ 255 := by
  have := bounds_u8 w
  exact ⟨a.toNat, by simp; omega, by omega⟩
theorem tm (a k : Nat) : Int.tmod (Int.ofNat a) (Int.ofNat k) = Int.tmod (Int.ofNat (a % k)) (Int.ofNat k) := by
  show Int.ofNat (a % k) = Int.ofNat (a % k % k)
  rw [Nat.mod_mod]
def Tk (lf : Nat) : BT := (.node 64 (.node 43 (.node 21 (.node 16 (.node 14 (.leaf 13 (PK.run [] (B13 lf))) (.leaf 14 (PK.run [.int .i64, .int .i64] (B14 lf)))) (.node 17 (.leaf 16 (PK.run [.slice] (B16 lf))) (.node 18 (.leaf 17 (PK.run [.ptr] (B17 lf))) (.leaf 18 (PK.run [.ptr] (B18 lf)))))) (.node 29 (.node 23 (.leaf 21 (PK.run [.ptr] (B21 lf))) (.node 24 (.leaf 23 (PK.run [.ptr, .int .i64] (B23 lf))) (.leaf 24 (PK.run [.ptr] (B24 lf))))) (.node 35 (.leaf 29 (PK.run [] (B29 lf))) (.node 36 (.leaf 35 (PK.run [.int .i64] (B35 lf))) (.leaf 36 (PK.run [] (B36 lf))))))) (.node 49 (.node 46 (.node 44 (.leaf 43 (PK.run [.ptr] (B43 lf))) (.leaf 44 (PK.run [.agg] (B44 lf)))) (.node 47 (.leaf 46 (PK.run [.slice] (B46 lf))) (.node 48 (.leaf 47 (PK.run [.slice] (B47 lf))) (.leaf 48 (PK.run [.ptr] (B48 lf)))))) (.node 52 (.node 50 (.leaf 49 (PK.run [.agg, .slice, .slice] (B49 lf))) (.node 51 (.leaf 50 (PK.run [.ptr, .ptr] (B50 lf))) (.leaf 51 (PK.run [.agg] (B51 lf))))) (.node 53 (.leaf 52 (PK.run [.int .i64, .slice] (B52 lf))) (.node 63 (.leaf 53 (PK.run [.ptr] (B53 lf))) (.leaf 63 (PK.run [.ptr, .int .i64] (B63 lf)))))))) (.node 100 (.node 90 (.node 81 (.node 65 (.leaf 64 (PK.run [.slice, .int .i64] (B64 lf))) (.leaf 65 (PK.run [.ptr] (B65 lf)))) (.node 86 (.leaf 81 (PK.run [] (B81 lf))) (.node 89 (.leaf 86 (PK.run [.int .i64] (B86 lf))) (.leaf 89 (PK.run [.slice] (B89 lf)))))) (.node 94 (.node 92 (.leaf 90 (PK.run [.agg] (B90 lf))) (.node 93 (.leaf 92 (PK.run [.ptr, .slice] (B92 lf))) (.leaf 93 (sortedB [137])))) (.node 95 (.leaf 94 (keysB 137)) (.node 96 (.leaf 95 (PK.run [.slice] (B95 lf))) (.leaf 96 (PK.run [.slice] (B96 lf))))))) (.node 115 (.node 103 (.node 101 (.leaf 100 (PK.run [.agg] (B100 lf))) (.node 102 (.leaf 101 (PK.run [.slice, .val] (B101 lf))) (.leaf 102 (PK.run [.agg] (B102 lf))))) (.node 113 (.leaf 103 (PK.run [.agg] (B103 lf))) (.node 114 (.leaf 113 (PK.run [.ptr, .int .i64] (B113 lf))) (.leaf 114 (PK.run [.slice, .val] (B114 lf)))))) (.node 145 (.node 133 (.leaf 115 (PK.run [.agg, .ptr] (B115 lf))) (.node 140 (.leaf 133 (PK.run [.int .i64, .int .i64] (B133 lf))) (.leaf 140 (PK.run [.slice, .val] (B140 lf))))) (.node 161 (.leaf 145 (PK.run [.slice, .val] (B145 lf))) (.node 186 (.leaf 161 (PK.run [.int .u16, .int .u16] (B161 lf))) (.leaf 186 (PK.run [.int .u32] (B186 lf)))))))))
theorem Tk_ok (lf : Nat) (w0 : World) : (Tk lf).ok Tryz.prog w0 := (okn (okn (okn (okn (okn (okl (O13 lf w0)) (okl (O14 lf w0))) (okn (okl (O16 lf w0)) (okn (okl (O17 lf w0)) (okl (O18 lf w0))))) (okn (okn (okl (O21 lf w0)) (okn (okl (O23 lf w0)) (okl (O24 lf w0)))) (okn (okl (O29 lf w0)) (okn (okl (O35 lf w0)) (okl (O36 lf w0)))))) (okn (okn (okn (okl (O43 lf w0)) (okl (O44 lf w0))) (okn (okl (O46 lf w0)) (okn (okl (O47 lf w0)) (okl (O48 lf w0))))) (okn (okn (okl (O49 lf w0)) (okn (okl (O50 lf w0)) (okl (O51 lf w0)))) (okn (okl (O52 lf w0)) (okn (okl (O53 lf w0)) (okl (O63 lf w0))))))) (okn (okn (okn (okn (okl (O64 lf w0)) (okl (O65 lf w0))) (okn (okl (O81 lf w0)) (okn (okl (O86 lf w0)) (okl (O89 lf w0))))) (okn (okn (okl (O90 lf w0)) (okn (okl (O92 lf w0)) (okl (okSorted w0)))) (okn (okl (okKeys94 w0)) (okn (okl (O95 lf w0)) (okl (O96 lf w0)))))) (okn (okn (okn (okl (O100 lf w0)) (okn (okl (O101 lf w0)) (okl (O102 lf w0)))) (okn (okl (O103 lf w0)) (okn (okl (O113 lf w0)) (okl (O114 lf w0))))) (okn (okn (okl (O115 lf w0)) (okn (okl (O133 lf w0)) (okl (O140 lf w0)))) (okn (okl (O145 lf w0)) (okn (okl (O161 lf w0)) (okl (O186 lf w0))))))))
theorem known_ev : ((Tk 20000).call 60) 13 [] H0 isT = true := by kernel_rfl
def T (lf : Nat) : BT := (.node 92 (.node 47 (.node 35 (.node 18 (.node 15 (.node 13 (.leaf 4 (PK.run [.int .u8, .int .u8] (B4 lf))) (.node 14 (.leaf 13 knownB) (.leaf 14 (PK.run [.int .i64, .int .i64] (B14 lf))))) (.node 16 (.leaf 15 (PK.run [.ptr, .slice] (B15 lf))) (.node 17 (.leaf 16 (PK.run [.slice] (B16 lf))) (.leaf 17 (PK.run [.ptr] (B17 lf)))))) (.node 24 (.node 21 (.leaf 18 (PK.run [.ptr] (B18 lf))) (.node 23 (.leaf 21 (PK.run [.ptr] (B21 lf))) (.leaf 23 (PK.run [.ptr, .int .i64] (B23 lf))))) (.node 29 (.leaf 24 (PK.run [.ptr] (B24 lf))) (.node 31 (.leaf 29 (PK.run [] (B29 lf))) (.leaf 31 (PK.run [.ptr, .agg, .int .i64] (B31 lf))))))) (.node 41 (.node 38 (.node 36 (.leaf 35 (PK.run [.int .i64] (B35 lf))) (.node 37 (.leaf 36 (PK.run [] (B36 lf))) (.leaf 37 (PK.run [.ptr, .slice] (B37 lf))))) (.node 39 (.leaf 38 (PK.run [.ptr] (B38 lf))) (.node 40 (.leaf 39 (PK.run [.ptr, .int .i64, .int .i64, .int .i64] (B39 lf))) (.leaf 40 (PK.run [.ptr, .agg] (B40 lf)))))) (.node 44 (.node 42 (.leaf 41 (PK.run [.ptr, .slice] (B41 lf))) (.node 43 (.leaf 42 (PK.run [.ptr, .agg, .slice] (B42 lf))) (.leaf 43 (PK.run [.ptr] (B43 lf))))) (.node 45 (.leaf 44 (PK.run [.agg] (B44 lf))) (.node 46 (.leaf 45 (PK.run [.ptr] (B45 lf))) (.leaf 46 (PK.run [.slice] (B46 lf)))))))) (.node 69 (.node 53 (.node 50 (.node 48 (.leaf 47 (PK.run [.slice] (B47 lf))) (.node 49 (.leaf 48 (PK.run [.ptr] (B48 lf))) (.leaf 49 (PK.run [.agg, .slice, .slice] (B49 lf))))) (.node 51 (.leaf 50 (PK.run [.ptr, .ptr] (B50 lf))) (.node 52 (.leaf 51 (PK.run [.agg] (B51 lf))) (.leaf 52 (PK.run [.int .i64, .slice] (B52 lf)))))) (.node 63 (.node 57 (.leaf 53 (PK.run [.ptr] (B53 lf))) (.node 58 (.leaf 57 (PK.run [.agg] (B57 lf))) (.leaf 58 (PK.run [.agg] (B58 lf))))) (.node 64 (.leaf 63 (PK.run [.ptr, .int .i64] (B63 lf))) (.node 65 (.leaf 64 (PK.run [.slice, .int .i64] (B64 lf))) (.leaf 65 (PK.run [.ptr] (B65 lf))))))) (.node 85 (.node 82 (.node 78 (.leaf 69 (PK.run [.slice, .agg] (B69 lf))) (.node 81 (.leaf 78 (PK.run [.agg] (B78 lf))) (.leaf 81 (PK.run [] (B81 lf))))) (.node 83 (.leaf 82 (PK.run [.slice] (B82 lf))) (.node 84 (.leaf 83 (PK.run [.slice, .val] (B83 lf))) (.leaf 84 (PK.run [.agg, .agg] (B84 lf)))))) (.node 88 (.node 86 (.leaf 85 (PK.run [.agg, .int .i64] (B85 lf))) (.node 87 (.leaf 86 (PK.run [.int .i64] (B86 lf))) (.leaf 87 (PK.run [.ptr, .int .i64] (B87 lf))))) (.node 90 (.node 89 (.leaf 88 (PK.run [.ptr, .int .i64, .agg] (B88 lf))) (.leaf 89 (PK.run [.slice] (B89 lf)))) (.node 91 (.leaf 90 (PK.run [.agg] (B90 lf))) (.leaf 91 (PK.run [.slice, .agg, .slice, .agg] (B91 lf))))))))) (.node 131 (.node 107 (.node 98 (.node 95 (.node 93 (.leaf 92 (PK.run [.ptr, .slice] (B92 lf))) (.node 94 (.leaf 93 (sortedB [137])) (.leaf 94 (keysB 137)))) (.node 96 (.leaf 95 (PK.run [.slice] (B95 lf))) (.node 97 (.leaf 96 (PK.run [.slice] (B96 lf))) (.leaf 97 (PK.run [.slice, .val] (B97 lf)))))) (.node 101 (.node 99 (.leaf 98 (PK.run [.agg, .agg] (B98 lf))) (.node 100 (.leaf 99 (PK.run [.ptr, .int .i64] (B99 lf))) (.leaf 100 (PK.run [.agg] (B100 lf))))) (.node 102 (.leaf 101 (PK.run [.slice, .val] (B101 lf))) (.node 103 (.leaf 102 (PK.run [.agg] (B102 lf))) (.leaf 103 (PK.run [.agg] (B103 lf))))))) (.node 123 (.node 114 (.node 108 (.leaf 107 (PK.run [.agg] (B107 lf))) (.node 113 (.leaf 108 (PK.run [.slice] (B108 lf))) (.leaf 113 (PK.run [.ptr, .int .i64] (B113 lf))))) (.node 115 (.leaf 114 (PK.run [.slice, .val] (B114 lf))) (.node 116 (.leaf 115 (PK.run [.agg, .ptr] (B115 lf))) (.leaf 116 (PK.run [.agg, .agg] (B116 lf)))))) (.node 127 (.node 125 (.leaf 123 (PK.run [.agg, .agg] (B123 lf))) (.node 126 (.leaf 125 (PK.run [.slice, .int .i64, .val] (B125 lf))) (.leaf 126 (PK.run [.agg] (B126 lf))))) (.node 129 (.node 128 (.leaf 127 (PK.run [.slice, .int .i64, .int .i64] (B127 lf))) (.leaf 128 (PK.run [.slice, .slice, .bool] (B128 lf)))) (.node 130 (.leaf 129 (PK.run [.slice, .val] (B129 lf))) (.leaf 130 (PK.run [.ptr, .ptr, .agg, .int .i64] (B130 lf)))))))) (.node 156 (.node 140 (.node 134 (.node 132 (.leaf 131 (PK.run [] (B131 lf))) (.node 133 (.leaf 132 (PK.run [.ptr, .ptr, .agg, .int .i64, .int .i64] (B132 lf))) (.leaf 133 (PK.run [.int .i64, .int .i64] (B133 lf))))) (.node 138 (.leaf 134 (PK.run [.agg, .agg] (B134 lf))) (.node 139 (.leaf 138 (PK.run [.slice, .int .i64, .int .i64, .int .i64, .val] (B138 lf))) (.leaf 139 (PK.run [.int .u64] (B139 lf)))))) (.node 152 (.node 145 (.leaf 140 (PK.run [.slice, .val] (B140 lf))) (.node 151 (.leaf 145 (PK.run [.slice, .val] (B145 lf))) (.leaf 151 (PK.run [.agg] (B151 lf))))) (.node 154 (.leaf 152 (PK.run [.slice, .int .i64, .int .i64, .val] (B152 lf))) (.node 155 (.leaf 154 (PK.run [.agg, .ptr] (B154 lf))) (.leaf 155 (PK.run [.slice, .val] (B155 lf))))))) (.node 164 (.node 159 (.node 157 (.leaf 156 (PK.run [.slice, .val] (B156 lf))) (.node 158 (.leaf 157 (PK.run [.int .i64, .ptr] (B157 lf))) (.leaf 158 (PK.run [.agg, .agg] (B158 lf))))) (.node 160 (.leaf 159 (PK.run [.agg, .int .i64] (B159 lf))) (.node 161 (.leaf 160 (PK.run [.ptr] (B160 lf))) (.leaf 161 (PK.run [.int .u16, .int .u16] (B161 lf)))))) (.node 182 (.node 172 (.leaf 164 (PK.run [.slice, .int .i64, .int .i64, .val] (B164 lf))) (.node 173 (.leaf 172 (PK.run [.int .u32] (B172 lf))) (.leaf 173 (PK.run [.int .u64] (B173 lf))))) (.node 185 (.node 184 (.leaf 182 (PK.run [.agg] (B182 lf))) (.leaf 184 (PK.run [.slice, .val] (B184 lf)))) (.node 186 (.leaf 185 (PK.run [.slice] (B185 lf))) (.leaf 186 (PK.run [.int .u32] (B186 lf))))))))))
theorem T_ok (lf : Nat) (w0 : World) : (T lf).ok Tryz.prog w0 := (okn (okn (okn (okn (okn (okn (okl (O4 lf w0)) (okn (okl (okb_known (BT.call_ok (Tk_ok 20000 w0) 60) known_ev)) (okl (O14 lf w0)))) (okn (okl (O15 lf w0)) (okn (okl (O16 lf w0)) (okl (O17 lf w0))))) (okn (okn (okl (O18 lf w0)) (okn (okl (O21 lf w0)) (okl (O23 lf w0)))) (okn (okl (O24 lf w0)) (okn (okl (O29 lf w0)) (okl (O31 lf w0)))))) (okn (okn (okn (okl (O35 lf w0)) (okn (okl (O36 lf w0)) (okl (O37 lf w0)))) (okn (okl (O38 lf w0)) (okn (okl (O39 lf w0)) (okl (O40 lf w0))))) (okn (okn (okl (O41 lf w0)) (okn (okl (O42 lf w0)) (okl (O43 lf w0)))) (okn (okl (O44 lf w0)) (okn (okl (O45 lf w0)) (okl (O46 lf w0))))))) (okn (okn (okn (okn (okl (O47 lf w0)) (okn (okl (O48 lf w0)) (okl (O49 lf w0)))) (okn (okl (O50 lf w0)) (okn (okl (O51 lf w0)) (okl (O52 lf w0))))) (okn (okn (okl (O53 lf w0)) (okn (okl (O57 lf w0)) (okl (O58 lf w0)))) (okn (okl (O63 lf w0)) (okn (okl (O64 lf w0)) (okl (O65 lf w0)))))) (okn (okn (okn (okl (O69 lf w0)) (okn (okl (O78 lf w0)) (okl (O81 lf w0)))) (okn (okl (O82 lf w0)) (okn (okl (O83 lf w0)) (okl (O84 lf w0))))) (okn (okn (okl (O85 lf w0)) (okn (okl (O86 lf w0)) (okl (O87 lf w0)))) (okn (okn (okl (O88 lf w0)) (okl (O89 lf w0))) (okn (okl (O90 lf w0)) (okl (O91 lf w0)))))))) (okn (okn (okn (okn (okn (okl (O92 lf w0)) (okn (okl (okSorted w0)) (okl (okKeys94 w0)))) (okn (okl (O95 lf w0)) (okn (okl (O96 lf w0)) (okl (O97 lf w0))))) (okn (okn (okl (O98 lf w0)) (okn (okl (O99 lf w0)) (okl (O100 lf w0)))) (okn (okl (O101 lf w0)) (okn (okl (O102 lf w0)) (okl (O103 lf w0)))))) (okn (okn (okn (okl (O107 lf w0)) (okn (okl (O108 lf w0)) (okl (O113 lf w0)))) (okn (okl (O114 lf w0)) (okn (okl (O115 lf w0)) (okl (O116 lf w0))))) (okn (okn (okl (O123 lf w0)) (okn (okl (O125 lf w0)) (okl (O126 lf w0)))) (okn (okn (okl (O127 lf w0)) (okl (O128 lf w0))) (okn (okl (O129 lf w0)) (okl (O130 lf w0))))))) (okn (okn (okn (okn (okl (O131 lf w0)) (okn (okl (O132 lf w0)) (okl (O133 lf w0)))) (okn (okl (O134 lf w0)) (okn (okl (O138 lf w0)) (okl (O139 lf w0))))) (okn (okn (okl (O140 lf w0)) (okn (okl (O145 lf w0)) (okl (O151 lf w0)))) (okn (okl (O152 lf w0)) (okn (okl (O154 lf w0)) (okl (O155 lf w0)))))) (okn (okn (okn (okl (O156 lf w0)) (okn (okl (O157 lf w0)) (okl (O158 lf w0)))) (okn (okl (O159 lf w0)) (okn (okl (O160 lf w0)) (okl (O161 lf w0))))) (okn (okn (okl (O164 lf w0)) (okn (okl (O172 lf w0)) (okl (O173 lf w0)))) (okn (okn (okl (O182 lf w0)) (okl (O184 lf w0))) (okn (okl (O185 lf w0)) (okl (O186 lf w0)))))))))
theorem e0_0 : ((List.range 2).all fun x => B4 20000 ((T 20000).call 60) (Int.ofNat (Nat.add 0 x)) (Int.ofNat 0) H0 isT) = true := by kernel_rfl
theorem e1_0 : ((List.range 2).all fun x => B4 20000 ((T 20000).call 60) (Int.ofNat (Nat.add 0 x)) (Int.ofNat 1) H0 isT) = true := by kernel_rfl
theorem e2_0 : ((List.range 2).all fun x => B4 20000 ((T 20000).call 60) (Int.ofNat (Nat.add 0 x)) (Int.ofNat 2) H0 isT) = true := by kernel_rfl
theorem e3_0 : ((List.range 2).all fun x => B4 20000 ((T 20000).call 60) (Int.ofNat (Nat.add 0 x)) (Int.ofNat 3) H0 isT) = true := by kernel_rfl
theorem grid (x : Nat) (hx : x < 2) (y : Nat) (hy : y < 4) : B4 20000 ((T 20000).call 60) (Int.ofNat x) (Int.ofNat y) H0 isT = true := by
  have key : ∀ (k m y : Nat), ((List.range m).all fun x => B4 20000 ((T 20000).call 60) (Int.ofNat (Nat.add k x)) (Int.ofNat y) H0 isT) = true → k ≤ x → x < k + m → B4 20000 ((T 20000).call 60) (Int.ofNat x) (Int.ofNat y) H0 isT = true := by
    intro k m y h h1 h2
    have := (List.all_eq_true.1 h) (x - k) (List.mem_range.2 (by omega))
    rwa [show Nat.add k (x - k) = x from by simp only [Nat.add_eq]; omega] at this
  rcases (by omega : y = 0 ∨ y = 1 ∨ y = 2 ∨ y = 3) with h | h | h | h
  · subst h
    exact key 0 2 0 e0_0 (by omega) (by omega)
  · subst h
    exact key 0 2 1 e1_0 (by omega) (by omega)
  · subst h
    exact key 0 2 2 e2_0 (by omega) (by omega)
  · subst h
    exact key 0 2 3 e3_0 (by omega) (by omega)
theorem less (lf : Nat) (cl : Cl) (a b : Nat) (H : AH) (K : AV → AH → Bool) : B4 lf cl (Int.ofNat a) (Int.ofNat b) H K = B4 lf cl (Int.ofNat (a % 2)) (Int.ofNat (b % 4)) H K := by
  unfold B4
  rw [tm b 4]
  congr 1
  funext r1 h2
  congr 1
  funext b3
  congr 1
  funext b4
  congr 1
  congr 1
  funext r5 h6
  congr 1
  funext p7
  congr 1
  funext r8 h9
  congr 1
  funext p10
  congr 1
  funext r11 h12
  congr 1
  funext p13
  congr 1
  funext n14
  congr 1
  funext n15
  congr 1
  funext n16
  refine loopX_rel (fun x y => Int.tmod x.1 (Int.ofNat 2) = Int.tmod y.1 (Int.ofNat 2) ∧ x.2 = y.2) ?_ _ _ _ _ ⟨tm a 2, rfl⟩
  rintro s1 s2 hs ⟨u, x⟩ ⟨v, y⟩ H ⟨h1, h2⟩
  simp only at h1 h2
  subst h2
  obtain ⟨x1, x2, x3, x4, x5⟩ := x
  have hs' : ∀ z H, s1 (u, z) H = s2 (v, z) H := fun z H => hs _ _ _ ⟨h1, rfl⟩
  simp only [pR_, h1, hs']
theorem all_ev (a : Nat) (_ : a ≤ 255) (b : Nat) (_ : b ≤ 255) : B4 20000 ((T 20000).call 60) (Int.ofNat a) (Int.ofNat b) H0 isT = true := by
  rw [less]
  exact grid _ (Nat.mod_lt _ (by decide)) _ (Nat.mod_lt _ (by decide))
theorem run_q (b : Cl → Int → Int → AH → (AV → AH → Bool) → Bool) (cl : Cl) (n0 : Int) (n1 : Int) (H : AH) (K : AV → AH → Bool) : PK.run [.int .u8, .int .u8] b cl [.s (.int .u8 n0), .s (.int .u8 n1)] H K = b cl n0 n1 H K := rfl
theorem walk : Walk Tryz.prog 4 Tryz.f4 := by
  intro H enc W base args ds p hval hA _
  rw [Tryz.params4] at hA hval
  obtain ⟨v0, vs0, d0, ds0, p0, q0, hargs, rfl, rfl, h0, r0⟩ := trodAll_cons hA
  obtain ⟨v1, vs1, d1, ds1, p1, q1, rfl, rfl, rfl, h1, r1⟩ := trodAll_cons r0
  obtain ⟨rfl, rfl, rfl⟩ := trodAll_nil r1
  obtain rfl : args = #[v0, v1] := by cases args; simp_all
  obtain ⟨a0, rfl, rfl, rfl, w0⟩ := open_int Tryz.underlying5 (hval 0 5 v0 rfl rfl) h0
  obtain ⟨a1, rfl, rfl, rfl, w1⟩ := open_int Tryz.underlying5 (hval 1 5 v1 rfl rfl) h1
  obtain ⟨n0, rfl, l0⟩ := u8_nat w0
  obtain ⟨n1, rfl, l1⟩ := u8_nat w1
  refine calls_of_okb (O4 20000 W) (BT.call_ok (T_ok 20000 W) 60) (avs := [.s (.int .u8 (Int.ofNat n0)), .s (.int .u8 (Int.ofNat n1))]) (vals := [.int .u8 (Int.ofNat n0), .int .u8 (Int.ofNat n1)]) (by simp [RVL, RV, RS]) (RH.empty _) (view0 W) ?_
  rw [run_q]
  exact all_ev n0 l0 n1 l1
theorem lifted (os : Os) (started : os.Started) (H : Type) (enc : TypeId × Value → H) :
    ReturnsInHanded {} Tryz.checked os 4 .any (Rows.auditFindsSpec.pre6 enc Tryz.prog Tryz.f4 Rows.auditFindsRow.domain false) (Rows.auditFindsSpec.post enc Tryz.prog Tryz.f4 false true false false) :=
  law_lifted (C := Tryz.checked) own started (by kernel_rfl) Tryz.func4
      (ChangeSpec.witness6 (enc := enc) (C := Tryz.checked) false ⟨#[], #[.int .u8 0, .int .u8 0], []⟩ 8 (by kernel_rfl) (by kernel_rfl) (by kernel_rfl) (by kernel_rfl))
      (by kernel_rfl) (by intro t ht; rw [Tryz.params4] at ht; simp at ht; subst ht; exact ⟨by kernel_rfl, by decide +kernel⟩) (tb := 4) rfl Tryz.underlying4 rfl
      (fun ds h => by match ds, h with | [_, _], _ => rfl) walk
theorem proved : Rows.AuditFindsSaid :=
  OpenClaim.holds_of_wide 4 Tryz.f4 rfl rfl rfl rfl rfl rfl rfl ⟨rfl, rfl, rfl, rfl, rfl⟩ rfl rfl rfl rfl rfl (by kernel_rfl) Tryz.func4 (by kernel_rfl)
    (of_decide_eq_true (by kernel_rfl)) (by unfold Func.isWrapper; rw [if_neg (of_decide_eq_false (by kernel_rfl))]; exact ⟨rfl, rfl⟩)
    (fun os started H enc _ => lifted os started H enc)
end
end Go.Proofs.YtlipmpnemnfchaaGreat.auditFinds
