import Derived.Test.YtlipmpnemnfchaaGreatRR1
import Derived.KernelRfl
section
/- RegionReturns: the homes of one row, evaluated. -/
namespace Go.Proofs.YtlipmpnemnfchaaGreat.regionReturns
open Go Go.Proofs Go.Vw Go.Vw.Ev
set_option maxRecDepth 100000
theorem e2_0 : G9 20000 ((T 20000).call 60) (Int.ofNat 0) (Int.ofNat 2) H0 isT = true := by kernel_rfl
theorem e2_1 : G9 20000 ((T 20000).call 60) (Int.ofNat 1) (Int.ofNat 2) H0 isT = true := by kernel_rfl
theorem e2_2 : G9 20000 ((T 20000).call 60) (Int.ofNat 2) (Int.ofNat 2) H0 isT = true := by kernel_rfl
theorem e2_3 : G9 20000 ((T 20000).call 60) (Int.ofNat 3) (Int.ofNat 2) H0 isT = true := by kernel_rfl
theorem e2_4 : G9 20000 ((T 20000).call 60) (Int.ofNat 4) (Int.ofNat 2) H0 isT = true := by kernel_rfl
theorem e2_5 : G9 20000 ((T 20000).call 60) (Int.ofNat 5) (Int.ofNat 2) H0 isT = true := by kernel_rfl
theorem e2_6 : G9 20000 ((T 20000).call 60) (Int.ofNat 6) (Int.ofNat 2) H0 isT = true := by kernel_rfl
theorem e2_7 : G9 20000 ((T 20000).call 60) (Int.ofNat 7) (Int.ofNat 2) H0 isT = true := by kernel_rfl
theorem e2_8 : G9 20000 ((T 20000).call 60) (Int.ofNat 8) (Int.ofNat 2) H0 isT = true := by kernel_rfl
theorem e2_9 : G9 20000 ((T 20000).call 60) (Int.ofNat 9) (Int.ofNat 2) H0 isT = true := by kernel_rfl
theorem e2_10 : G9 20000 ((T 20000).call 60) (Int.ofNat 10) (Int.ofNat 2) H0 isT = true := by kernel_rfl
theorem e2_11 : G9 20000 ((T 20000).call 60) (Int.ofNat 11) (Int.ofNat 2) H0 isT = true := by kernel_rfl
theorem e2_12 : G9 20000 ((T 20000).call 60) (Int.ofNat 12) (Int.ofNat 2) H0 isT = true := by kernel_rfl
theorem e2_13 : G9 20000 ((T 20000).call 60) (Int.ofNat 13) (Int.ofNat 2) H0 isT = true := by kernel_rfl
theorem e2_14 : G9 20000 ((T 20000).call 60) (Int.ofNat 14) (Int.ofNat 2) H0 isT = true := by kernel_rfl
theorem e2_15 : G9 20000 ((T 20000).call 60) (Int.ofNat 15) (Int.ofNat 2) H0 isT = true := by kernel_rfl
theorem row2 : ∀ x : Nat, x < 16 → G9 20000 ((T 20000).call 60) (Int.ofNat x) (Int.ofNat 2) H0 isT = true
  | 0, _ => e2_0
  | 1, _ => e2_1
  | 2, _ => e2_2
  | 3, _ => e2_3
  | 4, _ => e2_4
  | 5, _ => e2_5
  | 6, _ => e2_6
  | 7, _ => e2_7
  | 8, _ => e2_8
  | 9, _ => e2_9
  | 10, _ => e2_10
  | 11, _ => e2_11
  | 12, _ => e2_12
  | 13, _ => e2_13
  | 14, _ => e2_14
  | 15, _ => e2_15
  | x + 16, h => absurd h (by omega)
end Go.Proofs.YtlipmpnemnfchaaGreat.regionReturns
end
section
/- RegionReturns: the homes of one row, evaluated. -/
namespace Go.Proofs.YtlipmpnemnfchaaGreat.regionReturns
open Go Go.Proofs Go.Vw Go.Vw.Ev
set_option maxRecDepth 100000
theorem e3_0 : G9 20000 ((T 20000).call 60) (Int.ofNat 0) (Int.ofNat 3) H0 isT = true := by kernel_rfl
theorem e3_1 : G9 20000 ((T 20000).call 60) (Int.ofNat 1) (Int.ofNat 3) H0 isT = true := by kernel_rfl
theorem e3_2 : G9 20000 ((T 20000).call 60) (Int.ofNat 2) (Int.ofNat 3) H0 isT = true := by kernel_rfl
theorem e3_3 : G9 20000 ((T 20000).call 60) (Int.ofNat 3) (Int.ofNat 3) H0 isT = true := by kernel_rfl
theorem e3_4 : G9 20000 ((T 20000).call 60) (Int.ofNat 4) (Int.ofNat 3) H0 isT = true := by kernel_rfl
theorem e3_5 : G9 20000 ((T 20000).call 60) (Int.ofNat 5) (Int.ofNat 3) H0 isT = true := by kernel_rfl
theorem e3_6 : G9 20000 ((T 20000).call 60) (Int.ofNat 6) (Int.ofNat 3) H0 isT = true := by kernel_rfl
theorem e3_7 : G9 20000 ((T 20000).call 60) (Int.ofNat 7) (Int.ofNat 3) H0 isT = true := by kernel_rfl
theorem e3_8 : G9 20000 ((T 20000).call 60) (Int.ofNat 8) (Int.ofNat 3) H0 isT = true := by kernel_rfl
theorem e3_9 : G9 20000 ((T 20000).call 60) (Int.ofNat 9) (Int.ofNat 3) H0 isT = true := by kernel_rfl
theorem e3_10 : G9 20000 ((T 20000).call 60) (Int.ofNat 10) (Int.ofNat 3) H0 isT = true := by kernel_rfl
theorem e3_11 : G9 20000 ((T 20000).call 60) (Int.ofNat 11) (Int.ofNat 3) H0 isT = true := by kernel_rfl
theorem e3_12 : G9 20000 ((T 20000).call 60) (Int.ofNat 12) (Int.ofNat 3) H0 isT = true := by kernel_rfl
theorem e3_13 : G9 20000 ((T 20000).call 60) (Int.ofNat 13) (Int.ofNat 3) H0 isT = true := by kernel_rfl
theorem e3_14 : G9 20000 ((T 20000).call 60) (Int.ofNat 14) (Int.ofNat 3) H0 isT = true := by kernel_rfl
theorem e3_15 : G9 20000 ((T 20000).call 60) (Int.ofNat 15) (Int.ofNat 3) H0 isT = true := by kernel_rfl
theorem row3 : ∀ x : Nat, x < 16 → G9 20000 ((T 20000).call 60) (Int.ofNat x) (Int.ofNat 3) H0 isT = true
  | 0, _ => e3_0
  | 1, _ => e3_1
  | 2, _ => e3_2
  | 3, _ => e3_3
  | 4, _ => e3_4
  | 5, _ => e3_5
  | 6, _ => e3_6
  | 7, _ => e3_7
  | 8, _ => e3_8
  | 9, _ => e3_9
  | 10, _ => e3_10
  | 11, _ => e3_11
  | 12, _ => e3_12
  | 13, _ => e3_13
  | 14, _ => e3_14
  | 15, _ => e3_15
  | x + 16, h => absurd h (by omega)
end Go.Proofs.YtlipmpnemnfchaaGreat.regionReturns
end
