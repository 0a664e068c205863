import Derived.Test.YtlipmpnemnfchaaGreatRR1
import Derived.KernelRfl
section
/- RegionReturns: the homes of one row, evaluated. -/
namespace Go.Proofs.YtlipmpnemnfchaaGreat.regionReturns
open Go Go.Proofs Go.Vw Go.Vw.Ev
set_option maxRecDepth 100000
theorem e12_0 : G9 20000 ((T 20000).call 60) (Int.ofNat 0) (Int.ofNat 12) H0 isT = true := by kernel_rfl
theorem e12_1 : G9 20000 ((T 20000).call 60) (Int.ofNat 1) (Int.ofNat 12) H0 isT = true := by kernel_rfl
theorem e12_2 : G9 20000 ((T 20000).call 60) (Int.ofNat 2) (Int.ofNat 12) H0 isT = true := by kernel_rfl
theorem e12_3 : G9 20000 ((T 20000).call 60) (Int.ofNat 3) (Int.ofNat 12) H0 isT = true := by kernel_rfl
theorem e12_4 : G9 20000 ((T 20000).call 60) (Int.ofNat 4) (Int.ofNat 12) H0 isT = true := by kernel_rfl
theorem e12_5 : G9 20000 ((T 20000).call 60) (Int.ofNat 5) (Int.ofNat 12) H0 isT = true := by kernel_rfl
theorem e12_6 : G9 20000 ((T 20000).call 60) (Int.ofNat 6) (Int.ofNat 12) H0 isT = true := by kernel_rfl
theorem e12_7 : G9 20000 ((T 20000).call 60) (Int.ofNat 7) (Int.ofNat 12) H0 isT = true := by kernel_rfl
theorem e12_8 : G9 20000 ((T 20000).call 60) (Int.ofNat 8) (Int.ofNat 12) H0 isT = true := by kernel_rfl
theorem e12_9 : G9 20000 ((T 20000).call 60) (Int.ofNat 9) (Int.ofNat 12) H0 isT = true := by kernel_rfl
theorem e12_10 : G9 20000 ((T 20000).call 60) (Int.ofNat 10) (Int.ofNat 12) H0 isT = true := by kernel_rfl
theorem e12_11 : G9 20000 ((T 20000).call 60) (Int.ofNat 11) (Int.ofNat 12) H0 isT = true := by kernel_rfl
theorem e12_12 : G9 20000 ((T 20000).call 60) (Int.ofNat 12) (Int.ofNat 12) H0 isT = true := by kernel_rfl
theorem e12_13 : G9 20000 ((T 20000).call 60) (Int.ofNat 13) (Int.ofNat 12) H0 isT = true := by kernel_rfl
theorem e12_14 : G9 20000 ((T 20000).call 60) (Int.ofNat 14) (Int.ofNat 12) H0 isT = true := by kernel_rfl
theorem e12_15 : G9 20000 ((T 20000).call 60) (Int.ofNat 15) (Int.ofNat 12) H0 isT = true := by kernel_rfl
theorem row12 : ∀ x : Nat, x < 16 → G9 20000 ((T 20000).call 60) (Int.ofNat x) (Int.ofNat 12) H0 isT = true
  | 0, _ => e12_0
  | 1, _ => e12_1
  | 2, _ => e12_2
  | 3, _ => e12_3
  | 4, _ => e12_4
  | 5, _ => e12_5
  | 6, _ => e12_6
  | 7, _ => e12_7
  | 8, _ => e12_8
  | 9, _ => e12_9
  | 10, _ => e12_10
  | 11, _ => e12_11
  | 12, _ => e12_12
  | 13, _ => e12_13
  | 14, _ => e12_14
  | 15, _ => e12_15
  | x + 16, h => absurd h (by omega)
end Go.Proofs.YtlipmpnemnfchaaGreat.regionReturns
end
section
/- RegionReturns: the homes of one row, evaluated. -/
namespace Go.Proofs.YtlipmpnemnfchaaGreat.regionReturns
open Go Go.Proofs Go.Vw Go.Vw.Ev
set_option maxRecDepth 100000
theorem e13_0 : G9 20000 ((T 20000).call 60) (Int.ofNat 0) (Int.ofNat 13) H0 isT = true := by kernel_rfl
theorem e13_1 : G9 20000 ((T 20000).call 60) (Int.ofNat 1) (Int.ofNat 13) H0 isT = true := by kernel_rfl
theorem e13_2 : G9 20000 ((T 20000).call 60) (Int.ofNat 2) (Int.ofNat 13) H0 isT = true := by kernel_rfl
theorem e13_3 : G9 20000 ((T 20000).call 60) (Int.ofNat 3) (Int.ofNat 13) H0 isT = true := by kernel_rfl
theorem e13_4 : G9 20000 ((T 20000).call 60) (Int.ofNat 4) (Int.ofNat 13) H0 isT = true := by kernel_rfl
theorem e13_5 : G9 20000 ((T 20000).call 60) (Int.ofNat 5) (Int.ofNat 13) H0 isT = true := by kernel_rfl
theorem e13_6 : G9 20000 ((T 20000).call 60) (Int.ofNat 6) (Int.ofNat 13) H0 isT = true := by kernel_rfl
theorem e13_7 : G9 20000 ((T 20000).call 60) (Int.ofNat 7) (Int.ofNat 13) H0 isT = true := by kernel_rfl
theorem e13_8 : G9 20000 ((T 20000).call 60) (Int.ofNat 8) (Int.ofNat 13) H0 isT = true := by kernel_rfl
theorem e13_9 : G9 20000 ((T 20000).call 60) (Int.ofNat 9) (Int.ofNat 13) H0 isT = true := by kernel_rfl
theorem e13_10 : G9 20000 ((T 20000).call 60) (Int.ofNat 10) (Int.ofNat 13) H0 isT = true := by kernel_rfl
theorem e13_11 : G9 20000 ((T 20000).call 60) (Int.ofNat 11) (Int.ofNat 13) H0 isT = true := by kernel_rfl
theorem e13_12 : G9 20000 ((T 20000).call 60) (Int.ofNat 12) (Int.ofNat 13) H0 isT = true := by kernel_rfl
theorem e13_13 : G9 20000 ((T 20000).call 60) (Int.ofNat 13) (Int.ofNat 13) H0 isT = true := by kernel_rfl
theorem e13_14 : G9 20000 ((T 20000).call 60) (Int.ofNat 14) (Int.ofNat 13) H0 isT = true := by kernel_rfl
theorem e13_15 : G9 20000 ((T 20000).call 60) (Int.ofNat 15) (Int.ofNat 13) H0 isT = true := by kernel_rfl
theorem row13 : ∀ x : Nat, x < 16 → G9 20000 ((T 20000).call 60) (Int.ofNat x) (Int.ofNat 13) H0 isT = true
  | 0, _ => e13_0
  | 1, _ => e13_1
  | 2, _ => e13_2
  | 3, _ => e13_3
  | 4, _ => e13_4
  | 5, _ => e13_5
  | 6, _ => e13_6
  | 7, _ => e13_7
  | 8, _ => e13_8
  | 9, _ => e13_9
  | 10, _ => e13_10
  | 11, _ => e13_11
  | 12, _ => e13_12
  | 13, _ => e13_13
  | 14, _ => e13_14
  | 15, _ => e13_15
  | x + 16, h => absurd h (by omega)
end Go.Proofs.YtlipmpnemnfchaaGreat.regionReturns
end
