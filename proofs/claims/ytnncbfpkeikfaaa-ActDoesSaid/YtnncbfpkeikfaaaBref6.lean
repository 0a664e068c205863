import Derived.Test.YtnncbfpkeikfaaaBQ
namespace Go.Proofs
open Go Go.Vw Go.Vw.Ev
set_option maxRecDepth 100000
set_option maxHeartbeats 4000000
set_option linter.unusedVariables false
noncomputable section
/-- vedette/vedetteref6.SameAll -/
def B_ref6_SameAll (lf : Nat) (cl : Cl) (q0p : AP) (q0n : Nat) (q0c : ACap) (q0z : Nat) (q1p : AP) (q1n : Nat) (q1c : ACap) (q1z : Nat) (H : AH) (K : AV → AH → Bool) : Bool :=
  fB (!iEq (Int.ofNat q0n) (Int.ofNat q1n)) fun b1 => ifA b1 (K (AV.s (AS.bool false)) H) ((loopX lf (fun (self4 : ((AP × Nat × ACap × Nat) × (AP × Nat × ACap × Nat) × Int) → AH → Bool) (x2 : (AP × Nat × ACap × Nat) × (AP × Nat × ACap × Nat) × Int) (h3 : AH) => pR x2 fun u5 r5 => pR u5 fun p5 r5a => pR r5a fun l5 r5b => pR r5b fun c5 z5 => pR r5 fun u6 r6 => pR u6 fun p6 r6a => pR r6a fun l6 r6b => pR r6b fun c6 z6 => fB (iLt r6 (Int.ofNat l5)) fun b8 => ifA b8 (nilK p5 fun g9 o10 => idxK r6 l5 fun m11 => fN (Nat.add o10 (Nat.mul m11 11)) fun o12 => rowK h3 g9 fun cs13 => ldG cs13 o12 11 fun cs14 => nilK p6 fun g15 o16 => idxK r6 l6 fun m17 => fN (Nat.add o16 (Nat.mul m17 11)) fun o18 => rowK h3 g15 fun cs19 => ldG cs19 o18 11 fun cs20 => okK (leavesA [Leaf.int .i64, Leaf.int .i64, Leaf.int .i64, Leaf.int .i64, Leaf.str, Leaf.int .i64, Leaf.str, Leaf.int .i64, Leaf.str, Leaf.int .i64, Leaf.str] cs14 && leavesA [Leaf.int .i64, Leaf.int .i64, Leaf.int .i64, Leaf.int .i64, Leaf.str, Leaf.int .i64, Leaf.str, Leaf.int .i64, Leaf.str, Leaf.int .i64, Leaf.str] cs20) (fB (!cellsEqA cs14 cs20) fun b21 => ifA b21 (K (AV.s (AS.bool false)) h3) (w64 (iAdd r6 (Int.ofNat 1)) fun n22 => self4 ((p5, l5, c5, z5), (p6, l6, c6, z6), n22) h3))) (K (AV.s (AS.bool true)) h3)) ((q0p, q0n, q0c, q0z), (q1p, q1n, q1c, q1z), (Int.ofNat 0)) H))
def L_ref6_SameAll : Nat → LoopA := fun id => match id with
  | 4 => ⟨(AP × Nat × ACap × Nat) × (AP × Nat × ACap × Nat) × Int, (.pair (EncA.slice 0) (.pair (EncA.slice 1) (EncA.int .i64 5)))⟩
  | _ => noA
def R_ref6_SameAll : Nat → RegHint := fun id => match id with
  | 6 => ⟨(.op 0 (.op 1 (.op 2 (.op 3 (.op 4 (.op 5 (.op 6 (.op 7 (.op 8 .nil))))))))), 0, 0, 9, 0⟩
  | _ => ⟨.nil, 0, 0, 0, 0⟩
theorem E_ref6_SameAll (lf : Nat) (cl : Cl) : PK.Eq [.slice, .slice] (evFn PG cl L_ref6_SameAll R_ref6_SameAll noJ lf Try.f19) (B_ref6_SameAll lf cl) := by intro q0p q0n q0c q0z q1p q1n q1c q1z H K; kernel_rfl
theorem O_ref6_SameAll (lf : Nat) (w0 : World) : OkB PG w0 i_ref6_SameAll (PK.run [.slice, .slice] (B_ref6_SameAll lf)) := okb mix (fn := Try.f19) rfl (E_ref6_SameAll lf)

/-- vedette/vedetteref6.At -/
def B_ref6_At (lf : Nat) (cl : Cl) (q0p : AP) (q0n : Nat) (q0c : ACap) (q0z : Nat) (q1 : Int) (H : AH) (K : AV → AH → Bool) : Bool :=
  (loopX lf (fun (self3 : ((AP × Nat × ACap × Nat) × Int × Int) → AH → Bool) (x1 : (AP × Nat × ACap × Nat) × Int × Int) (h2 : AH) => pR x1 fun u4 r4 => pR u4 fun p4 r4a => pR r4a fun l4 r4b => pR r4b fun c4 z4 => pR r4 fun n5 r6 => fB (iLt r6 (Int.ofNat l4)) fun b8 => ifA b8 (nilK p4 fun g9 o10 => idxK r6 l4 fun m11 => fN (Nat.add o10 (Nat.mul m11 11)) fun o12 => fN (Nat.add o12 0) fun o13 => rowK h2 g9 fun cs14 => ldI cs14 o13 .i64 fun n15 => fB (iEq n15 n5) fun b16 => ifA b16 (K (AV.s (AS.int .i64 r6)) h2) (w64 (iAdd r6 (Int.ofNat 1)) fun n17 => self3 ((p4, l4, c4, z4), n5, n17) h2)) (K (AV.s (AS.int .i64 (Int.negSucc 0))) h2)) ((q0p, q0n, q0c, q0z), q1, (Int.ofNat 0)) H)
def L_ref6_At : Nat → LoopA := fun id => match id with
  | 2 => ⟨(AP × Nat × ACap × Nat) × Int × Int, (.pair (EncA.slice 0) (.pair (EncA.int .i64 1) (EncA.int .i64 5)))⟩
  | _ => noA
theorem E_ref6_At (lf : Nat) (cl : Cl) : PK.Eq [.slice, .int .i64] (evFn PG cl L_ref6_At noR noJ lf Try.f20) (B_ref6_At lf cl) := by intro q0p q0n q0c q0z q1 H K; kernel_rfl
theorem O_ref6_At (lf : Nat) (w0 : World) : OkB PG w0 i_ref6_At (PK.run [.slice, .int .i64] (B_ref6_At lf)) := okb mix (fn := Try.f20) rfl (E_ref6_At lf)

/-- vedette/vedetteref6.Without -/
def B_ref6_Without (lf : Nat) (cl : Cl) (q0p : AP) (q0n : Nat) (q0c : ACap) (q0z : Nat) (q1 : Int) (H : AH) (K : AV → AH → Bool) : Bool :=
  (loopX lf (fun (self3 : ((AP × Nat × ACap × Nat) × Int × (AP × Nat × ACap × Nat) × Int) → AH → Bool) (x1 : (AP × Nat × ACap × Nat) × Int × (AP × Nat × ACap × Nat) × Int) (h2 : AH) => pR x1 fun u4 r4 => pR u4 fun p4 r4a => pR r4a fun l4 r4b => pR r4b fun c4 z4 => pR r4 fun n5 r6 => pR r6 fun u7 r7 => pR u7 fun p7 r7a => pR r7a fun l7 r7b => pR r7b fun c7 z7 => fB (iLt r7 (Int.ofNat l4)) fun b9 => ifA b9 (nilK p4 fun g10 o11 => idxK r7 l4 fun m12 => fN (Nat.add o11 (Nat.mul m12 11)) fun o13 => fN (Nat.add o13 0) fun o14 => rowK h2 g10 fun cs15 => ldI cs15 o14 .i64 fun n16 => fB (!iEq n16 n5) fun b17 => ifA b17 (nilK p4 fun g18 o19 => idxK r7 l4 fun m20 => fN (Nat.add o19 (Nat.mul m20 11)) fun o21 => rowK h2 g18 fun cs22 => ldG cs22 o21 11 fun cs23 => okK (Nat.beq (ln cs23) 11) (fL (ap (α := AS) cs23 []) fun cs24 => okK (Nat.beq (ln cs24) (1 * 11)) (newK h2 (.row cs24) fun g25 h26 => elK h26 (.at g25 0) 1 11 fun ys27 => appA h26 p7 l7 z7 11 120 ys27 1 c7 fun p29 l29 c29 z29 h28 => w64 (iAdd r7 (Int.ofNat 1)) fun n30 => self3 ((p4, l4, c4, z4), n5, (p29, l29, c29, z29), n30) h28))) (w64 (iAdd r7 (Int.ofNat 1)) fun n31 => self3 ((p4, l4, c4, z4), n5, (p7, l7, c7, z7), n31) h2)) (K (AV.s (AS.slice p7 l7 c7 z7)) h2)) ((q0p, q0n, q0c, q0z), q1, (AP.nil, 0, (.lit 0), 1), (Int.ofNat 0)) H)
def L_ref6_Without : Nat → LoopA := fun id => match id with
  | 3 => ⟨(AP × Nat × ACap × Nat) × Int × (AP × Nat × ACap × Nat) × Int, (.pair (EncA.slice 0) (.pair (EncA.int .i64 1) (.pair (EncA.slice 5) (EncA.int .i64 6))))⟩
  | _ => noA
theorem E_ref6_Without (lf : Nat) (cl : Cl) : PK.Eq [.slice, .int .i64] (evFn PG cl L_ref6_Without noR noJ lf Try.f21) (B_ref6_Without lf cl) := by intro q0p q0n q0c q0z q1 H K; kernel_rfl
theorem O_ref6_Without (lf : Nat) (w0 : World) : OkB PG w0 i_ref6_Without (PK.run [.slice, .int .i64] (B_ref6_Without lf)) := okb mix (fn := Try.f21) rfl (E_ref6_Without lf)

end
end Go.Proofs
