import Derived.Test.YtlipmpnemnfchaaGreatRR1
import Derived.KernelRfl
section
/- RegionReturns: the homes of one row, evaluated. -/
namespace Go.Proofs.YtlipmpnemnfchaaGreat.regionReturns
open Go Go.Proofs Go.Vw Go.Vw.Ev
set_option maxRecDepth 100000
theorem e8_0 : G9 20000 ((T 20000).call 60) (Int.ofNat 0) (Int.ofNat 8) H0 isT = true := by kernel_rfl
theorem e8_1 : G9 20000 ((T 20000).call 60) (Int.ofNat 1) (Int.ofNat 8) H0 isT = true := by kernel_rfl
theorem e8_2 : G9 20000 ((T 20000).call 60) (Int.ofNat 2) (Int.ofNat 8) H0 isT = true := by kernel_rfl
theorem e8_3 : G9 20000 ((T 20000).call 60) (Int.ofNat 3) (Int.ofNat 8) H0 isT = true := by kernel_rfl
theorem e8_4 : G9 20000 ((T 20000).call 60) (Int.ofNat 4) (Int.ofNat 8) H0 isT = true := by kernel_rfl
theorem e8_5 : G9 20000 ((T 20000).call 60) (Int.ofNat 5) (Int.ofNat 8) H0 isT = true := by kernel_rfl
theorem e8_6 : G9 20000 ((T 20000).call 60) (Int.ofNat 6) (Int.ofNat 8) H0 isT = true := by kernel_rfl
theorem e8_7 : G9 20000 ((T 20000).call 60) (Int.ofNat 7) (Int.ofNat 8) H0 isT = true := by kernel_rfl
theorem e8_8 : G9 20000 ((T 20000).call 60) (Int.ofNat 8) (Int.ofNat 8) H0 isT = true := by kernel_rfl
theorem e8_9 : G9 20000 ((T 20000).call 60) (Int.ofNat 9) (Int.ofNat 8) H0 isT = true := by kernel_rfl
theorem e8_10 : G9 20000 ((T 20000).call 60) (Int.ofNat 10) (Int.ofNat 8) H0 isT = true := by kernel_rfl
theorem e8_11 : G9 20000 ((T 20000).call 60) (Int.ofNat 11) (Int.ofNat 8) H0 isT = true := by kernel_rfl
theorem e8_12 : G9 20000 ((T 20000).call 60) (Int.ofNat 12) (Int.ofNat 8) H0 isT = true := by kernel_rfl
theorem e8_13 : G9 20000 ((T 20000).call 60) (Int.ofNat 13) (Int.ofNat 8) H0 isT = true := by kernel_rfl
theorem e8_14 : G9 20000 ((T 20000).call 60) (Int.ofNat 14) (Int.ofNat 8) H0 isT = true := by kernel_rfl
theorem e8_15 : G9 20000 ((T 20000).call 60) (Int.ofNat 15) (Int.ofNat 8) H0 isT = true := by kernel_rfl
theorem row8 : ∀ x : Nat, x < 16 → G9 20000 ((T 20000).call 60) (Int.ofNat x) (Int.ofNat 8) H0 isT = true
  | 0, _ => e8_0
  | 1, _ => e8_1
  | 2, _ => e8_2
  | 3, _ => e8_3
  | 4, _ => e8_4
  | 5, _ => e8_5
  | 6, _ => e8_6
  | 7, _ => e8_7
  | 8, _ => e8_8
  | 9, _ => e8_9
  | 10, _ => e8_10
  | 11, _ => e8_11
  | 12, _ => e8_12
  | 13, _ => e8_13
  | 14, _ => e8_14
  | 15, _ => e8_15
  | x + 16, h => absurd h (by omega)
end Go.Proofs.YtlipmpnemnfchaaGreat.regionReturns
end
section
/- RegionReturns: the homes of one row, evaluated. -/
namespace Go.Proofs.YtlipmpnemnfchaaGreat.regionReturns
open Go Go.Proofs Go.Vw Go.Vw.Ev
set_option maxRecDepth 100000
theorem e9_0 : G9 20000 ((T 20000).call 60) (Int.ofNat 0) (Int.ofNat 9) H0 isT = true := by kernel_rfl
theorem e9_1 : G9 20000 ((T 20000).call 60) (Int.ofNat 1) (Int.ofNat 9) H0 isT = true := by kernel_rfl
theorem e9_2 : G9 20000 ((T 20000).call 60) (Int.ofNat 2) (Int.ofNat 9) H0 isT = true := by kernel_rfl
theorem e9_3 : G9 20000 ((T 20000).call 60) (Int.ofNat 3) (Int.ofNat 9) H0 isT = true := by kernel_rfl
theorem e9_4 : G9 20000 ((T 20000).call 60) (Int.ofNat 4) (Int.ofNat 9) H0 isT = true := by kernel_rfl
theorem e9_5 : G9 20000 ((T 20000).call 60) (Int.ofNat 5) (Int.ofNat 9) H0 isT = true := by kernel_rfl
theorem e9_6 : G9 20000 ((T 20000).call 60) (Int.ofNat 6) (Int.ofNat 9) H0 isT = true := by kernel_rfl
theorem e9_7 : G9 20000 ((T 20000).call 60) (Int.ofNat 7) (Int.ofNat 9) H0 isT = true := by kernel_rfl
theorem e9_8 : G9 20000 ((T 20000).call 60) (Int.ofNat 8) (Int.ofNat 9) H0 isT = true := by kernel_rfl
theorem e9_9 : G9 20000 ((T 20000).call 60) (Int.ofNat 9) (Int.ofNat 9) H0 isT = true := by kernel_rfl
theorem e9_10 : G9 20000 ((T 20000).call 60) (Int.ofNat 10) (Int.ofNat 9) H0 isT = true := by kernel_rfl
theorem e9_11 : G9 20000 ((T 20000).call 60) (Int.ofNat 11) (Int.ofNat 9) H0 isT = true := by kernel_rfl
theorem e9_12 : G9 20000 ((T 20000).call 60) (Int.ofNat 12) (Int.ofNat 9) H0 isT = true := by kernel_rfl
theorem e9_13 : G9 20000 ((T 20000).call 60) (Int.ofNat 13) (Int.ofNat 9) H0 isT = true := by kernel_rfl
theorem e9_14 : G9 20000 ((T 20000).call 60) (Int.ofNat 14) (Int.ofNat 9) H0 isT = true := by kernel_rfl
theorem e9_15 : G9 20000 ((T 20000).call 60) (Int.ofNat 15) (Int.ofNat 9) H0 isT = true := by kernel_rfl
theorem row9 : ∀ x : Nat, x < 16 → G9 20000 ((T 20000).call 60) (Int.ofNat x) (Int.ofNat 9) H0 isT = true
  | 0, _ => e9_0
  | 1, _ => e9_1
  | 2, _ => e9_2
  | 3, _ => e9_3
  | 4, _ => e9_4
  | 5, _ => e9_5
  | 6, _ => e9_6
  | 7, _ => e9_7
  | 8, _ => e9_8
  | 9, _ => e9_9
  | 10, _ => e9_10
  | 11, _ => e9_11
  | 12, _ => e9_12
  | 13, _ => e9_13
  | 14, _ => e9_14
  | 15, _ => e9_15
  | x + 16, h => absurd h (by omega)
end Go.Proofs.YtlipmpnemnfchaaGreat.regionReturns
end
