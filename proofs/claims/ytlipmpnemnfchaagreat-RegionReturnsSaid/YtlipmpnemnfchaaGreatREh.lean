import Derived.Test.YtlipmpnemnfchaaGreatRR1
import Derived.KernelRfl
section
/- RegionReturns: the homes of one row, evaluated. -/
namespace Go.Proofs.YtlipmpnemnfchaaGreat.regionReturns
open Go Go.Proofs Go.Vw Go.Vw.Ev
set_option maxRecDepth 100000
theorem e14_0 : G9 20000 ((T 20000).call 60) (Int.ofNat 0) (Int.ofNat 14) H0 isT = true := by kernel_rfl
theorem e14_1 : G9 20000 ((T 20000).call 60) (Int.ofNat 1) (Int.ofNat 14) H0 isT = true := by kernel_rfl
theorem e14_2 : G9 20000 ((T 20000).call 60) (Int.ofNat 2) (Int.ofNat 14) H0 isT = true := by kernel_rfl
theorem e14_3 : G9 20000 ((T 20000).call 60) (Int.ofNat 3) (Int.ofNat 14) H0 isT = true := by kernel_rfl
theorem e14_4 : G9 20000 ((T 20000).call 60) (Int.ofNat 4) (Int.ofNat 14) H0 isT = true := by kernel_rfl
theorem e14_5 : G9 20000 ((T 20000).call 60) (Int.ofNat 5) (Int.ofNat 14) H0 isT = true := by kernel_rfl
theorem e14_6 : G9 20000 ((T 20000).call 60) (Int.ofNat 6) (Int.ofNat 14) H0 isT = true := by kernel_rfl
theorem e14_7 : G9 20000 ((T 20000).call 60) (Int.ofNat 7) (Int.ofNat 14) H0 isT = true := by kernel_rfl
theorem e14_8 : G9 20000 ((T 20000).call 60) (Int.ofNat 8) (Int.ofNat 14) H0 isT = true := by kernel_rfl
theorem e14_9 : G9 20000 ((T 20000).call 60) (Int.ofNat 9) (Int.ofNat 14) H0 isT = true := by kernel_rfl
theorem e14_10 : G9 20000 ((T 20000).call 60) (Int.ofNat 10) (Int.ofNat 14) H0 isT = true := by kernel_rfl
theorem e14_11 : G9 20000 ((T 20000).call 60) (Int.ofNat 11) (Int.ofNat 14) H0 isT = true := by kernel_rfl
theorem e14_12 : G9 20000 ((T 20000).call 60) (Int.ofNat 12) (Int.ofNat 14) H0 isT = true := by kernel_rfl
theorem e14_13 : G9 20000 ((T 20000).call 60) (Int.ofNat 13) (Int.ofNat 14) H0 isT = true := by kernel_rfl
theorem e14_14 : G9 20000 ((T 20000).call 60) (Int.ofNat 14) (Int.ofNat 14) H0 isT = true := by kernel_rfl
theorem e14_15 : G9 20000 ((T 20000).call 60) (Int.ofNat 15) (Int.ofNat 14) H0 isT = true := by kernel_rfl
theorem row14 : ∀ x : Nat, x < 16 → G9 20000 ((T 20000).call 60) (Int.ofNat x) (Int.ofNat 14) H0 isT = true
  | 0, _ => e14_0
  | 1, _ => e14_1
  | 2, _ => e14_2
  | 3, _ => e14_3
  | 4, _ => e14_4
  | 5, _ => e14_5
  | 6, _ => e14_6
  | 7, _ => e14_7
  | 8, _ => e14_8
  | 9, _ => e14_9
  | 10, _ => e14_10
  | 11, _ => e14_11
  | 12, _ => e14_12
  | 13, _ => e14_13
  | 14, _ => e14_14
  | 15, _ => e14_15
  | x + 16, h => absurd h (by omega)
end Go.Proofs.YtlipmpnemnfchaaGreat.regionReturns
end
section
/- RegionReturns: the homes of one row, evaluated. -/
namespace Go.Proofs.YtlipmpnemnfchaaGreat.regionReturns
open Go Go.Proofs Go.Vw Go.Vw.Ev
set_option maxRecDepth 100000
theorem e15_0 : G9 20000 ((T 20000).call 60) (Int.ofNat 0) (Int.ofNat 15) H0 isT = true := by kernel_rfl
theorem e15_1 : G9 20000 ((T 20000).call 60) (Int.ofNat 1) (Int.ofNat 15) H0 isT = true := by kernel_rfl
theorem e15_2 : G9 20000 ((T 20000).call 60) (Int.ofNat 2) (Int.ofNat 15) H0 isT = true := by kernel_rfl
theorem e15_3 : G9 20000 ((T 20000).call 60) (Int.ofNat 3) (Int.ofNat 15) H0 isT = true := by kernel_rfl
theorem e15_4 : G9 20000 ((T 20000).call 60) (Int.ofNat 4) (Int.ofNat 15) H0 isT = true := by kernel_rfl
theorem e15_5 : G9 20000 ((T 20000).call 60) (Int.ofNat 5) (Int.ofNat 15) H0 isT = true := by kernel_rfl
theorem e15_6 : G9 20000 ((T 20000).call 60) (Int.ofNat 6) (Int.ofNat 15) H0 isT = true := by kernel_rfl
theorem e15_7 : G9 20000 ((T 20000).call 60) (Int.ofNat 7) (Int.ofNat 15) H0 isT = true := by kernel_rfl
theorem e15_8 : G9 20000 ((T 20000).call 60) (Int.ofNat 8) (Int.ofNat 15) H0 isT = true := by kernel_rfl
theorem e15_9 : G9 20000 ((T 20000).call 60) (Int.ofNat 9) (Int.ofNat 15) H0 isT = true := by kernel_rfl
theorem e15_10 : G9 20000 ((T 20000).call 60) (Int.ofNat 10) (Int.ofNat 15) H0 isT = true := by kernel_rfl
theorem e15_11 : G9 20000 ((T 20000).call 60) (Int.ofNat 11) (Int.ofNat 15) H0 isT = true := by kernel_rfl
theorem e15_12 : G9 20000 ((T 20000).call 60) (Int.ofNat 12) (Int.ofNat 15) H0 isT = true := by kernel_rfl
theorem e15_13 : G9 20000 ((T 20000).call 60) (Int.ofNat 13) (Int.ofNat 15) H0 isT = true := by kernel_rfl
theorem e15_14 : G9 20000 ((T 20000).call 60) (Int.ofNat 14) (Int.ofNat 15) H0 isT = true := by kernel_rfl
theorem e15_15 : G9 20000 ((T 20000).call 60) (Int.ofNat 15) (Int.ofNat 15) H0 isT = true := by kernel_rfl
theorem row15 : ∀ x : Nat, x < 16 → G9 20000 ((T 20000).call 60) (Int.ofNat x) (Int.ofNat 15) H0 isT = true
  | 0, _ => e15_0
  | 1, _ => e15_1
  | 2, _ => e15_2
  | 3, _ => e15_3
  | 4, _ => e15_4
  | 5, _ => e15_5
  | 6, _ => e15_6
  | 7, _ => e15_7
  | 8, _ => e15_8
  | 9, _ => e15_9
  | 10, _ => e15_10
  | 11, _ => e15_11
  | 12, _ => e15_12
  | 13, _ => e15_13
  | 14, _ => e15_14
  | 15, _ => e15_15
  | x + 16, h => absurd h (by omega)
end Go.Proofs.YtlipmpnemnfchaaGreat.regionReturns
end
