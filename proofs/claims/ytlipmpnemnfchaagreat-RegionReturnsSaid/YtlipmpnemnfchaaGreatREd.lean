import Derived.Test.YtlipmpnemnfchaaGreatRR1
import Derived.KernelRfl
section
/- RegionReturns: the homes of one row, evaluated. -/
namespace Go.Proofs.YtlipmpnemnfchaaGreat.regionReturns
open Go Go.Proofs Go.Vw Go.Vw.Ev
set_option maxRecDepth 100000
theorem e6_0 : G9 20000 ((T 20000).call 60) (Int.ofNat 0) (Int.ofNat 6) H0 isT = true := by kernel_rfl
theorem e6_1 : G9 20000 ((T 20000).call 60) (Int.ofNat 1) (Int.ofNat 6) H0 isT = true := by kernel_rfl
theorem e6_2 : G9 20000 ((T 20000).call 60) (Int.ofNat 2) (Int.ofNat 6) H0 isT = true := by kernel_rfl
theorem e6_3 : G9 20000 ((T 20000).call 60) (Int.ofNat 3) (Int.ofNat 6) H0 isT = true := by kernel_rfl
theorem e6_4 : G9 20000 ((T 20000).call 60) (Int.ofNat 4) (Int.ofNat 6) H0 isT = true := by kernel_rfl
theorem e6_5 : G9 20000 ((T 20000).call 60) (Int.ofNat 5) (Int.ofNat 6) H0 isT = true := by kernel_rfl
theorem e6_6 : G9 20000 ((T 20000).call 60) (Int.ofNat 6) (Int.ofNat 6) H0 isT = true := by kernel_rfl
theorem e6_7 : G9 20000 ((T 20000).call 60) (Int.ofNat 7) (Int.ofNat 6) H0 isT = true := by kernel_rfl
theorem e6_8 : G9 20000 ((T 20000).call 60) (Int.ofNat 8) (Int.ofNat 6) H0 isT = true := by kernel_rfl
theorem e6_9 : G9 20000 ((T 20000).call 60) (Int.ofNat 9) (Int.ofNat 6) H0 isT = true := by kernel_rfl
theorem e6_10 : G9 20000 ((T 20000).call 60) (Int.ofNat 10) (Int.ofNat 6) H0 isT = true := by kernel_rfl
theorem e6_11 : G9 20000 ((T 20000).call 60) (Int.ofNat 11) (Int.ofNat 6) H0 isT = true := by kernel_rfl
theorem e6_12 : G9 20000 ((T 20000).call 60) (Int.ofNat 12) (Int.ofNat 6) H0 isT = true := by kernel_rfl
theorem e6_13 : G9 20000 ((T 20000).call 60) (Int.ofNat 13) (Int.ofNat 6) H0 isT = true := by kernel_rfl
theorem e6_14 : G9 20000 ((T 20000).call 60) (Int.ofNat 14) (Int.ofNat 6) H0 isT = true := by kernel_rfl
theorem e6_15 : G9 20000 ((T 20000).call 60) (Int.ofNat 15) (Int.ofNat 6) H0 isT = true := by kernel_rfl
theorem row6 : ∀ x : Nat, x < 16 → G9 20000 ((T 20000).call 60) (Int.ofNat x) (Int.ofNat 6) H0 isT = true
  | 0, _ => e6_0
  | 1, _ => e6_1
  | 2, _ => e6_2
  | 3, _ => e6_3
  | 4, _ => e6_4
  | 5, _ => e6_5
  | 6, _ => e6_6
  | 7, _ => e6_7
  | 8, _ => e6_8
  | 9, _ => e6_9
  | 10, _ => e6_10
  | 11, _ => e6_11
  | 12, _ => e6_12
  | 13, _ => e6_13
  | 14, _ => e6_14
  | 15, _ => e6_15
  | x + 16, h => absurd h (by omega)
end Go.Proofs.YtlipmpnemnfchaaGreat.regionReturns
end
section
/- RegionReturns: the homes of one row, evaluated. -/
namespace Go.Proofs.YtlipmpnemnfchaaGreat.regionReturns
open Go Go.Proofs Go.Vw Go.Vw.Ev
set_option maxRecDepth 100000
theorem e7_0 : G9 20000 ((T 20000).call 60) (Int.ofNat 0) (Int.ofNat 7) H0 isT = true := by kernel_rfl
theorem e7_1 : G9 20000 ((T 20000).call 60) (Int.ofNat 1) (Int.ofNat 7) H0 isT = true := by kernel_rfl
theorem e7_2 : G9 20000 ((T 20000).call 60) (Int.ofNat 2) (Int.ofNat 7) H0 isT = true := by kernel_rfl
theorem e7_3 : G9 20000 ((T 20000).call 60) (Int.ofNat 3) (Int.ofNat 7) H0 isT = true := by kernel_rfl
theorem e7_4 : G9 20000 ((T 20000).call 60) (Int.ofNat 4) (Int.ofNat 7) H0 isT = true := by kernel_rfl
theorem e7_5 : G9 20000 ((T 20000).call 60) (Int.ofNat 5) (Int.ofNat 7) H0 isT = true := by kernel_rfl
theorem e7_6 : G9 20000 ((T 20000).call 60) (Int.ofNat 6) (Int.ofNat 7) H0 isT = true := by kernel_rfl
theorem e7_7 : G9 20000 ((T 20000).call 60) (Int.ofNat 7) (Int.ofNat 7) H0 isT = true := by kernel_rfl
theorem e7_8 : G9 20000 ((T 20000).call 60) (Int.ofNat 8) (Int.ofNat 7) H0 isT = true := by kernel_rfl
theorem e7_9 : G9 20000 ((T 20000).call 60) (Int.ofNat 9) (Int.ofNat 7) H0 isT = true := by kernel_rfl
theorem e7_10 : G9 20000 ((T 20000).call 60) (Int.ofNat 10) (Int.ofNat 7) H0 isT = true := by kernel_rfl
theorem e7_11 : G9 20000 ((T 20000).call 60) (Int.ofNat 11) (Int.ofNat 7) H0 isT = true := by kernel_rfl
theorem e7_12 : G9 20000 ((T 20000).call 60) (Int.ofNat 12) (Int.ofNat 7) H0 isT = true := by kernel_rfl
theorem e7_13 : G9 20000 ((T 20000).call 60) (Int.ofNat 13) (Int.ofNat 7) H0 isT = true := by kernel_rfl
theorem e7_14 : G9 20000 ((T 20000).call 60) (Int.ofNat 14) (Int.ofNat 7) H0 isT = true := by kernel_rfl
theorem e7_15 : G9 20000 ((T 20000).call 60) (Int.ofNat 15) (Int.ofNat 7) H0 isT = true := by kernel_rfl
theorem row7 : ∀ x : Nat, x < 16 → G9 20000 ((T 20000).call 60) (Int.ofNat x) (Int.ofNat 7) H0 isT = true
  | 0, _ => e7_0
  | 1, _ => e7_1
  | 2, _ => e7_2
  | 3, _ => e7_3
  | 4, _ => e7_4
  | 5, _ => e7_5
  | 6, _ => e7_6
  | 7, _ => e7_7
  | 8, _ => e7_8
  | 9, _ => e7_9
  | 10, _ => e7_10
  | 11, _ => e7_11
  | 12, _ => e7_12
  | 13, _ => e7_13
  | 14, _ => e7_14
  | 15, _ => e7_15
  | x + 16, h => absurd h (by omega)
end Go.Proofs.YtlipmpnemnfchaaGreat.regionReturns
end
