import Derived.Test.YtlipmpnemnfchaaGreatRR1
import Derived.KernelRfl
section
/- RegionReturns: the homes of one row, evaluated. -/
namespace Go.Proofs.YtlipmpnemnfchaaGreat.regionReturns
open Go Go.Proofs Go.Vw Go.Vw.Ev
set_option maxRecDepth 100000
theorem e4_0 : G9 20000 ((T 20000).call 60) (Int.ofNat 0) (Int.ofNat 4) H0 isT = true := by kernel_rfl
theorem e4_1 : G9 20000 ((T 20000).call 60) (Int.ofNat 1) (Int.ofNat 4) H0 isT = true := by kernel_rfl
theorem e4_2 : G9 20000 ((T 20000).call 60) (Int.ofNat 2) (Int.ofNat 4) H0 isT = true := by kernel_rfl
theorem e4_3 : G9 20000 ((T 20000).call 60) (Int.ofNat 3) (Int.ofNat 4) H0 isT = true := by kernel_rfl
theorem e4_4 : G9 20000 ((T 20000).call 60) (Int.ofNat 4) (Int.ofNat 4) H0 isT = true := by kernel_rfl
theorem e4_5 : G9 20000 ((T 20000).call 60) (Int.ofNat 5) (Int.ofNat 4) H0 isT = true := by kernel_rfl
theorem e4_6 : G9 20000 ((T 20000).call 60) (Int.ofNat 6) (Int.ofNat 4) H0 isT = true := by kernel_rfl
theorem e4_7 : G9 20000 ((T 20000).call 60) (Int.ofNat 7) (Int.ofNat 4) H0 isT = true := by kernel_rfl
theorem e4_8 : G9 20000 ((T 20000).call 60) (Int.ofNat 8) (Int.ofNat 4) H0 isT = true := by kernel_rfl
theorem e4_9 : G9 20000 ((T 20000).call 60) (Int.ofNat 9) (Int.ofNat 4) H0 isT = true := by kernel_rfl
theorem e4_10 : G9 20000 ((T 20000).call 60) (Int.ofNat 10) (Int.ofNat 4) H0 isT = true := by kernel_rfl
theorem e4_11 : G9 20000 ((T 20000).call 60) (Int.ofNat 11) (Int.ofNat 4) H0 isT = true := by kernel_rfl
theorem e4_12 : G9 20000 ((T 20000).call 60) (Int.ofNat 12) (Int.ofNat 4) H0 isT = true := by kernel_rfl
theorem e4_13 : G9 20000 ((T 20000).call 60) (Int.ofNat 13) (Int.ofNat 4) H0 isT = true := by kernel_rfl
theorem e4_14 : G9 20000 ((T 20000).call 60) (Int.ofNat 14) (Int.ofNat 4) H0 isT = true := by kernel_rfl
theorem e4_15 : G9 20000 ((T 20000).call 60) (Int.ofNat 15) (Int.ofNat 4) H0 isT = true := by kernel_rfl
theorem row4 : ∀ x : Nat, x < 16 → G9 20000 ((T 20000).call 60) (Int.ofNat x) (Int.ofNat 4) H0 isT = true
  | 0, _ => e4_0
  | 1, _ => e4_1
  | 2, _ => e4_2
  | 3, _ => e4_3
  | 4, _ => e4_4
  | 5, _ => e4_5
  | 6, _ => e4_6
  | 7, _ => e4_7
  | 8, _ => e4_8
  | 9, _ => e4_9
  | 10, _ => e4_10
  | 11, _ => e4_11
  | 12, _ => e4_12
  | 13, _ => e4_13
  | 14, _ => e4_14
  | 15, _ => e4_15
  | x + 16, h => absurd h (by omega)
end Go.Proofs.YtlipmpnemnfchaaGreat.regionReturns
end
section
/- RegionReturns: the homes of one row, evaluated. -/
namespace Go.Proofs.YtlipmpnemnfchaaGreat.regionReturns
open Go Go.Proofs Go.Vw Go.Vw.Ev
set_option maxRecDepth 100000
theorem e5_0 : G9 20000 ((T 20000).call 60) (Int.ofNat 0) (Int.ofNat 5) H0 isT = true := by kernel_rfl
theorem e5_1 : G9 20000 ((T 20000).call 60) (Int.ofNat 1) (Int.ofNat 5) H0 isT = true := by kernel_rfl
theorem e5_2 : G9 20000 ((T 20000).call 60) (Int.ofNat 2) (Int.ofNat 5) H0 isT = true := by kernel_rfl
theorem e5_3 : G9 20000 ((T 20000).call 60) (Int.ofNat 3) (Int.ofNat 5) H0 isT = true := by kernel_rfl
theorem e5_4 : G9 20000 ((T 20000).call 60) (Int.ofNat 4) (Int.ofNat 5) H0 isT = true := by kernel_rfl
theorem e5_5 : G9 20000 ((T 20000).call 60) (Int.ofNat 5) (Int.ofNat 5) H0 isT = true := by kernel_rfl
theorem e5_6 : G9 20000 ((T 20000).call 60) (Int.ofNat 6) (Int.ofNat 5) H0 isT = true := by kernel_rfl
theorem e5_7 : G9 20000 ((T 20000).call 60) (Int.ofNat 7) (Int.ofNat 5) H0 isT = true := by kernel_rfl
theorem e5_8 : G9 20000 ((T 20000).call 60) (Int.ofNat 8) (Int.ofNat 5) H0 isT = true := by kernel_rfl
theorem e5_9 : G9 20000 ((T 20000).call 60) (Int.ofNat 9) (Int.ofNat 5) H0 isT = true := by kernel_rfl
theorem e5_10 : G9 20000 ((T 20000).call 60) (Int.ofNat 10) (Int.ofNat 5) H0 isT = true := by kernel_rfl
theorem e5_11 : G9 20000 ((T 20000).call 60) (Int.ofNat 11) (Int.ofNat 5) H0 isT = true := by kernel_rfl
theorem e5_12 : G9 20000 ((T 20000).call 60) (Int.ofNat 12) (Int.ofNat 5) H0 isT = true := by kernel_rfl
theorem e5_13 : G9 20000 ((T 20000).call 60) (Int.ofNat 13) (Int.ofNat 5) H0 isT = true := by kernel_rfl
theorem e5_14 : G9 20000 ((T 20000).call 60) (Int.ofNat 14) (Int.ofNat 5) H0 isT = true := by kernel_rfl
theorem e5_15 : G9 20000 ((T 20000).call 60) (Int.ofNat 15) (Int.ofNat 5) H0 isT = true := by kernel_rfl
theorem row5 : ∀ x : Nat, x < 16 → G9 20000 ((T 20000).call 60) (Int.ofNat x) (Int.ofNat 5) H0 isT = true
  | 0, _ => e5_0
  | 1, _ => e5_1
  | 2, _ => e5_2
  | 3, _ => e5_3
  | 4, _ => e5_4
  | 5, _ => e5_5
  | 6, _ => e5_6
  | 7, _ => e5_7
  | 8, _ => e5_8
  | 9, _ => e5_9
  | 10, _ => e5_10
  | 11, _ => e5_11
  | 12, _ => e5_12
  | 13, _ => e5_13
  | 14, _ => e5_14
  | 15, _ => e5_15
  | x + 16, h => absurd h (by omega)
end Go.Proofs.YtlipmpnemnfchaaGreat.regionReturns
end
