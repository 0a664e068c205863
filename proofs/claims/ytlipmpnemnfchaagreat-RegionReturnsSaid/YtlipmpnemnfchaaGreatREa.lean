import Derived.Test.YtlipmpnemnfchaaGreatRR1
import Derived.KernelRfl
section
/- RegionReturns: the homes of one row, evaluated. -/
namespace Go.Proofs.YtlipmpnemnfchaaGreat.regionReturns
open Go Go.Proofs Go.Vw Go.Vw.Ev
set_option maxRecDepth 100000
theorem e0_0 : G9 20000 ((T 20000).call 60) (Int.ofNat 0) (Int.ofNat 0) H0 isT = true := by kernel_rfl
theorem e0_1 : G9 20000 ((T 20000).call 60) (Int.ofNat 1) (Int.ofNat 0) H0 isT = true := by kernel_rfl
theorem e0_2 : G9 20000 ((T 20000).call 60) (Int.ofNat 2) (Int.ofNat 0) H0 isT = true := by kernel_rfl
theorem e0_3 : G9 20000 ((T 20000).call 60) (Int.ofNat 3) (Int.ofNat 0) H0 isT = true := by kernel_rfl
theorem e0_4 : G9 20000 ((T 20000).call 60) (Int.ofNat 4) (Int.ofNat 0) H0 isT = true := by kernel_rfl
theorem e0_5 : G9 20000 ((T 20000).call 60) (Int.ofNat 5) (Int.ofNat 0) H0 isT = true := by kernel_rfl
theorem e0_6 : G9 20000 ((T 20000).call 60) (Int.ofNat 6) (Int.ofNat 0) H0 isT = true := by kernel_rfl
theorem e0_7 : G9 20000 ((T 20000).call 60) (Int.ofNat 7) (Int.ofNat 0) H0 isT = true := by kernel_rfl
theorem e0_8 : G9 20000 ((T 20000).call 60) (Int.ofNat 8) (Int.ofNat 0) H0 isT = true := by kernel_rfl
theorem e0_9 : G9 20000 ((T 20000).call 60) (Int.ofNat 9) (Int.ofNat 0) H0 isT = true := by kernel_rfl
theorem e0_10 : G9 20000 ((T 20000).call 60) (Int.ofNat 10) (Int.ofNat 0) H0 isT = true := by kernel_rfl
theorem e0_11 : G9 20000 ((T 20000).call 60) (Int.ofNat 11) (Int.ofNat 0) H0 isT = true := by kernel_rfl
theorem e0_12 : G9 20000 ((T 20000).call 60) (Int.ofNat 12) (Int.ofNat 0) H0 isT = true := by kernel_rfl
theorem e0_13 : G9 20000 ((T 20000).call 60) (Int.ofNat 13) (Int.ofNat 0) H0 isT = true := by kernel_rfl
theorem e0_14 : G9 20000 ((T 20000).call 60) (Int.ofNat 14) (Int.ofNat 0) H0 isT = true := by kernel_rfl
theorem e0_15 : G9 20000 ((T 20000).call 60) (Int.ofNat 15) (Int.ofNat 0) H0 isT = true := by kernel_rfl
theorem row0 : ∀ x : Nat, x < 16 → G9 20000 ((T 20000).call 60) (Int.ofNat x) (Int.ofNat 0) H0 isT = true
  | 0, _ => e0_0
  | 1, _ => e0_1
  | 2, _ => e0_2
  | 3, _ => e0_3
  | 4, _ => e0_4
  | 5, _ => e0_5
  | 6, _ => e0_6
  | 7, _ => e0_7
  | 8, _ => e0_8
  | 9, _ => e0_9
  | 10, _ => e0_10
  | 11, _ => e0_11
  | 12, _ => e0_12
  | 13, _ => e0_13
  | 14, _ => e0_14
  | 15, _ => e0_15
  | x + 16, h => absurd h (by omega)
end Go.Proofs.YtlipmpnemnfchaaGreat.regionReturns
end
section
/- RegionReturns: the homes of one row, evaluated. -/
namespace Go.Proofs.YtlipmpnemnfchaaGreat.regionReturns
open Go Go.Proofs Go.Vw Go.Vw.Ev
set_option maxRecDepth 100000
theorem e1_0 : G9 20000 ((T 20000).call 60) (Int.ofNat 0) (Int.ofNat 1) H0 isT = true := by kernel_rfl
theorem e1_1 : G9 20000 ((T 20000).call 60) (Int.ofNat 1) (Int.ofNat 1) H0 isT = true := by kernel_rfl
theorem e1_2 : G9 20000 ((T 20000).call 60) (Int.ofNat 2) (Int.ofNat 1) H0 isT = true := by kernel_rfl
theorem e1_3 : G9 20000 ((T 20000).call 60) (Int.ofNat 3) (Int.ofNat 1) H0 isT = true := by kernel_rfl
theorem e1_4 : G9 20000 ((T 20000).call 60) (Int.ofNat 4) (Int.ofNat 1) H0 isT = true := by kernel_rfl
theorem e1_5 : G9 20000 ((T 20000).call 60) (Int.ofNat 5) (Int.ofNat 1) H0 isT = true := by kernel_rfl
theorem e1_6 : G9 20000 ((T 20000).call 60) (Int.ofNat 6) (Int.ofNat 1) H0 isT = true := by kernel_rfl
theorem e1_7 : G9 20000 ((T 20000).call 60) (Int.ofNat 7) (Int.ofNat 1) H0 isT = true := by kernel_rfl
theorem e1_8 : G9 20000 ((T 20000).call 60) (Int.ofNat 8) (Int.ofNat 1) H0 isT = true := by kernel_rfl
theorem e1_9 : G9 20000 ((T 20000).call 60) (Int.ofNat 9) (Int.ofNat 1) H0 isT = true := by kernel_rfl
theorem e1_10 : G9 20000 ((T 20000).call 60) (Int.ofNat 10) (Int.ofNat 1) H0 isT = true := by kernel_rfl
theorem e1_11 : G9 20000 ((T 20000).call 60) (Int.ofNat 11) (Int.ofNat 1) H0 isT = true := by kernel_rfl
theorem e1_12 : G9 20000 ((T 20000).call 60) (Int.ofNat 12) (Int.ofNat 1) H0 isT = true := by kernel_rfl
theorem e1_13 : G9 20000 ((T 20000).call 60) (Int.ofNat 13) (Int.ofNat 1) H0 isT = true := by kernel_rfl
theorem e1_14 : G9 20000 ((T 20000).call 60) (Int.ofNat 14) (Int.ofNat 1) H0 isT = true := by kernel_rfl
theorem e1_15 : G9 20000 ((T 20000).call 60) (Int.ofNat 15) (Int.ofNat 1) H0 isT = true := by kernel_rfl
theorem row1 : ∀ x : Nat, x < 16 → G9 20000 ((T 20000).call 60) (Int.ofNat x) (Int.ofNat 1) H0 isT = true
  | 0, _ => e1_0
  | 1, _ => e1_1
  | 2, _ => e1_2
  | 3, _ => e1_3
  | 4, _ => e1_4
  | 5, _ => e1_5
  | 6, _ => e1_6
  | 7, _ => e1_7
  | 8, _ => e1_8
  | 9, _ => e1_9
  | 10, _ => e1_10
  | 11, _ => e1_11
  | 12, _ => e1_12
  | 13, _ => e1_13
  | 14, _ => e1_14
  | 15, _ => e1_15
  | x + 16, h => absurd h (by omega)
end Go.Proofs.YtlipmpnemnfchaaGreat.regionReturns
end
