import Derived.Test.YtlipmpnemnfchaaGreatRR1
import Derived.KernelRfl
section
/- RegionReturns: the homes of one row, evaluated. -/
namespace Go.Proofs.YtlipmpnemnfchaaGreat.regionReturns
open Go Go.Proofs Go.Vw Go.Vw.Ev
set_option maxRecDepth 100000
theorem e10_0 : G9 20000 ((T 20000).call 60) (Int.ofNat 0) (Int.ofNat 10) H0 isT = true := by kernel_rfl
theorem e10_1 : G9 20000 ((T 20000).call 60) (Int.ofNat 1) (Int.ofNat 10) H0 isT = true := by kernel_rfl
theorem e10_2 : G9 20000 ((T 20000).call 60) (Int.ofNat 2) (Int.ofNat 10) H0 isT = true := by kernel_rfl
theorem e10_3 : G9 20000 ((T 20000).call 60) (Int.ofNat 3) (Int.ofNat 10) H0 isT = true := by kernel_rfl
theorem e10_4 : G9 20000 ((T 20000).call 60) (Int.ofNat 4) (Int.ofNat 10) H0 isT = true := by kernel_rfl
theorem e10_5 : G9 20000 ((T 20000).call 60) (Int.ofNat 5) (Int.ofNat 10) H0 isT = true := by kernel_rfl
theorem e10_6 : G9 20000 ((T 20000).call 60) (Int.ofNat 6) (Int.ofNat 10) H0 isT = true := by kernel_rfl
theorem e10_7 : G9 20000 ((T 20000).call 60) (Int.ofNat 7) (Int.ofNat 10) H0 isT = true := by kernel_rfl
theorem e10_8 : G9 20000 ((T 20000).call 60) (Int.ofNat 8) (Int.ofNat 10) H0 isT = true := by kernel_rfl
theorem e10_9 : G9 20000 ((T 20000).call 60) (Int.ofNat 9) (Int.ofNat 10) H0 isT = true := by kernel_rfl
theorem e10_10 : G9 20000 ((T 20000).call 60) (Int.ofNat 10) (Int.ofNat 10) H0 isT = true := by kernel_rfl
theorem e10_11 : G9 20000 ((T 20000).call 60) (Int.ofNat 11) (Int.ofNat 10) H0 isT = true := by kernel_rfl
theorem e10_12 : G9 20000 ((T 20000).call 60) (Int.ofNat 12) (Int.ofNat 10) H0 isT = true := by kernel_rfl
theorem e10_13 : G9 20000 ((T 20000).call 60) (Int.ofNat 13) (Int.ofNat 10) H0 isT = true := by kernel_rfl
theorem e10_14 : G9 20000 ((T 20000).call 60) (Int.ofNat 14) (Int.ofNat 10) H0 isT = true := by kernel_rfl
theorem e10_15 : G9 20000 ((T 20000).call 60) (Int.ofNat 15) (Int.ofNat 10) H0 isT = true := by kernel_rfl
theorem row10 : ∀ x : Nat, x < 16 → G9 20000 ((T 20000).call 60) (Int.ofNat x) (Int.ofNat 10) H0 isT = true
  | 0, _ => e10_0
  | 1, _ => e10_1
  | 2, _ => e10_2
  | 3, _ => e10_3
  | 4, _ => e10_4
  | 5, _ => e10_5
  | 6, _ => e10_6
  | 7, _ => e10_7
  | 8, _ => e10_8
  | 9, _ => e10_9
  | 10, _ => e10_10
  | 11, _ => e10_11
  | 12, _ => e10_12
  | 13, _ => e10_13
  | 14, _ => e10_14
  | 15, _ => e10_15
  | x + 16, h => absurd h (by omega)
end Go.Proofs.YtlipmpnemnfchaaGreat.regionReturns
end
section
/- RegionReturns: the homes of one row, evaluated. -/
namespace Go.Proofs.YtlipmpnemnfchaaGreat.regionReturns
open Go Go.Proofs Go.Vw Go.Vw.Ev
set_option maxRecDepth 100000
theorem e11_0 : G9 20000 ((T 20000).call 60) (Int.ofNat 0) (Int.ofNat 11) H0 isT = true := by kernel_rfl
theorem e11_1 : G9 20000 ((T 20000).call 60) (Int.ofNat 1) (Int.ofNat 11) H0 isT = true := by kernel_rfl
theorem e11_2 : G9 20000 ((T 20000).call 60) (Int.ofNat 2) (Int.ofNat 11) H0 isT = true := by kernel_rfl
theorem e11_3 : G9 20000 ((T 20000).call 60) (Int.ofNat 3) (Int.ofNat 11) H0 isT = true := by kernel_rfl
theorem e11_4 : G9 20000 ((T 20000).call 60) (Int.ofNat 4) (Int.ofNat 11) H0 isT = true := by kernel_rfl
theorem e11_5 : G9 20000 ((T 20000).call 60) (Int.ofNat 5) (Int.ofNat 11) H0 isT = true := by kernel_rfl
theorem e11_6 : G9 20000 ((T 20000).call 60) (Int.ofNat 6) (Int.ofNat 11) H0 isT = true := by kernel_rfl
theorem e11_7 : G9 20000 ((T 20000).call 60) (Int.ofNat 7) (Int.ofNat 11) H0 isT = true := by kernel_rfl
theorem e11_8 : G9 20000 ((T 20000).call 60) (Int.ofNat 8) (Int.ofNat 11) H0 isT = true := by kernel_rfl
theorem e11_9 : G9 20000 ((T 20000).call 60) (Int.ofNat 9) (Int.ofNat 11) H0 isT = true := by kernel_rfl
theorem e11_10 : G9 20000 ((T 20000).call 60) (Int.ofNat 10) (Int.ofNat 11) H0 isT = true := by kernel_rfl
theorem e11_11 : G9 20000 ((T 20000).call 60) (Int.ofNat 11) (Int.ofNat 11) H0 isT = true := by kernel_rfl
theorem e11_12 : G9 20000 ((T 20000).call 60) (Int.ofNat 12) (Int.ofNat 11) H0 isT = true := by kernel_rfl
theorem e11_13 : G9 20000 ((T 20000).call 60) (Int.ofNat 13) (Int.ofNat 11) H0 isT = true := by kernel_rfl
theorem e11_14 : G9 20000 ((T 20000).call 60) (Int.ofNat 14) (Int.ofNat 11) H0 isT = true := by kernel_rfl
theorem e11_15 : G9 20000 ((T 20000).call 60) (Int.ofNat 15) (Int.ofNat 11) H0 isT = true := by kernel_rfl
theorem row11 : ∀ x : Nat, x < 16 → G9 20000 ((T 20000).call 60) (Int.ofNat x) (Int.ofNat 11) H0 isT = true
  | 0, _ => e11_0
  | 1, _ => e11_1
  | 2, _ => e11_2
  | 3, _ => e11_3
  | 4, _ => e11_4
  | 5, _ => e11_5
  | 6, _ => e11_6
  | 7, _ => e11_7
  | 8, _ => e11_8
  | 9, _ => e11_9
  | 10, _ => e11_10
  | 11, _ => e11_11
  | 12, _ => e11_12
  | 13, _ => e11_13
  | 14, _ => e11_14
  | 15, _ => e11_15
  | x + 16, h => absurd h (by omega)
end Go.Proofs.YtlipmpnemnfchaaGreat.regionReturns
end
