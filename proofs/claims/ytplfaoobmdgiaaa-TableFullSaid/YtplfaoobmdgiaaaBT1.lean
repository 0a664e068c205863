import Derived.Test.YtplfaoobmdgiaaaVwMono
import Derived.KernelRfl
import Derived.Test.YtplfaoobmdgiaaaProg
import Derived.Test.YtplfaoobmdgiaaaChecked
namespace Go.Proofs
open Go Go.Vw Go.Vw.Ev
set_option maxRecDepth 100000
set_option maxHeartbeats 4000000
set_option linter.unusedVariables false
noncomputable section
/-- vedette/vedettelaw9.TableFull -/
def B10 (lf : Nat) (cl : Cl) (q0 : Int) (H : AH) (K : AV → AH → Bool) : Bool :=
  cl 31 [] H fun r1 h2 => arB r1 fun b3 => fB (!b3) fun b4 => ifA b4 (K (AV.s (AS.bool false)) h2) (cl 32 [] h2 fun r5 h6 => asP r5 fun p7 => (loopX lf (fun (self10 : (Int × AP × Int) → AH → Bool) (x8 : Int × AP × Int) (h9 : AH) => pR x8 fun n11 r12 => pR r12 fun p13 r14 => fB (iLt r14 (Int.ofNat 200)) fun b16 => ifA b16 (w64 (iMul (Int.ofNat 3) r14) fun n17 => fI (Int.tmod r14 (Int.ofNat 64)) fun n18 => w64 (Int.tdiv r14 (Int.ofNat 64)) fun n19 => fL ((AS.int .i64 n17) :: (ap (α := AS) [AS.int .i64 n18, AS.int .i64 n19] [AS.int .i64 (Int.ofNat 0), AS.str [], AS.int .i64 (Int.ofNat 0), AS.str [], AS.int .i64 (Int.ofNat 0), AS.str [], AS.int .i64 (Int.ofNat 0), AS.str []])) fun cs20 => cl 36 [AV.s (AS.ptr p13), AV.agg cs20] h9 fun r21 h22 => arI r21 .i64 fun n23 => fB (!iEq n23 (Int.ofNat 0)) fun b24 => ifA b24 (K (AV.s (AS.bool false)) h22) (w64 (iAdd r14 (Int.ofNat 1)) fun n25 => self10 (n11, p13, n25) h22)) (cl 36 [AV.s (AS.ptr p13), AV.agg [AS.int .i64 (Int.ofNat 1), AS.int .i64 (Int.ofNat 0), AS.int .i64 (Int.ofNat 0), AS.int .i64 (Int.ofNat 0), AS.str [], AS.int .i64 (Int.ofNat 0), AS.str [], AS.int .i64 (Int.ofNat 0), AS.str [], AS.int .i64 (Int.ofNat 0), AS.str []]] h9 fun r26 h27 => arI r26 .i64 fun n28 => w64 (n11) fun n29 => fI (Int.tmod n29 (Int.ofNat 200)) fun n30 => w64 (iMul (Int.ofNat 3) n30) fun n31 => fL ((AS.int .i64 n31) :: (ap (α := AS) [AS.int .i64 (Int.ofNat 63), AS.int .i64 (Int.ofNat 63)] [AS.int .i64 (Int.ofNat 0), AS.str [], AS.int .i64 (Int.ofNat 0), AS.str [], AS.int .i64 (Int.ofNat 0), AS.str [], AS.int .i64 (Int.ofNat 0), AS.str []])) fun cs32 => cl 39 [AV.s (AS.ptr p13), AV.agg cs32] h27 fun r33 h34 => arI r33 .i64 fun n35 => w64 (n11) fun n36 => fI (Int.tmod n36 (Int.ofNat 200)) fun n37 => w64 (iMul (Int.ofNat 3) n37) fun n38 => cl 40 [AV.s (AS.ptr p13), AV.s (AS.int .i64 n38)] h34 fun r39 h40 => arI r39 .i64 fun n41 => cl 36 [AV.s (AS.ptr p13), AV.agg [AS.int .i64 (Int.ofNat 1), AS.int .i64 (Int.ofNat 0), AS.int .i64 (Int.ofNat 0), AS.int .i64 (Int.ofNat 0), AS.str [], AS.int .i64 (Int.ofNat 0), AS.str [], AS.int .i64 (Int.ofNat 0), AS.str [], AS.int .i64 (Int.ofNat 0), AS.str []]] h40 fun r42 h43 => arI r42 .i64 fun n44 => fB (iEq n28 (Int.ofNat 16)) fun b45 => ifA b45 (fB (iEq n35 (Int.ofNat 0)) fun b46 => ifA b46 (fB (iEq n41 (Int.ofNat 0)) fun b47 => ifA b47 (fB (iEq n44 (Int.ofNat 0)) fun b48 => ifA b48 (cl 49 [AV.s (AS.ptr p13)] h43 fun r49 h50 => arI r49 .i64 fun n51 => fB (iEq n51 (Int.ofNat 200)) fun b52 => K (AV.s (AS.bool b52)) h50) (K (AV.s (AS.bool false)) h43)) (K (AV.s (AS.bool false)) h43)) (K (AV.s (AS.bool false)) h43)) (K (AV.s (AS.bool false)) h43))) (q0, p7, (Int.ofNat 0)) h6))
def L10 : Nat → LoopA := fun id => match id with
  | 5 => ⟨Int × AP × Int, (.pair (EncA.int .u8 0) (.pair (EncA.ptr 3) (EncA.int .i64 4)))⟩
  | _ => noA
theorem E10 (lf : Nat) (cl : Cl) : PK.Eq [.int .u8] (evFn Try.prog cl L10 noR noJ lf Try.f10) (B10 lf cl) := by intro q0 H K; kernel_rfl
theorem O10 (lf : Nat) (w0 : World) : OkB Try.prog w0 10 (PK.run [.int .u8] (B10 lf)) := okb Try.checked.mixed (fn := Try.f10) rfl (E10 lf)
theorem M10 (lf : Nat) : MonoB (PK.run [.int .u8] (B10 lf)) := mob (E10 lf)

/-- vedette/quad.New -/
def B12 (lf : Nat) (cl : Cl)  (H : AH) (K : AV → AH → Bool) : Bool :=
  newK H (.imap []) fun g1 h2 => newK h2 (.row [AS.map (some g1), AS.int .i64 (Int.ofNat 0), AS.slice AP.nil 0 (.lit 0) 1, AS.ptr AP.nil]) fun g3 h4 => K (AV.s (AS.ptr (.at g3 0))) h4
theorem E12 (lf : Nat) (cl : Cl) : PK.Eq [] (evFn Try.prog cl noL noR noJ lf Try.f12) (B12 lf cl) := by intro  H K; kernel_rfl
theorem O12 (lf : Nat) (w0 : World) : OkB Try.prog w0 12 (PK.run [] (B12 lf)) := okb Try.checked.mixed (fn := Try.f12) rfl (E12 lf)
theorem M12 (lf : Nat) : MonoB (PK.run [] (B12 lf)) := mob (E12 lf)

/-- (*vedette/quad.Tree).Copy -/
def B13 (lf : Nat) (cl : Cl) (q0 : AP) (H : AH) (K : AV → AH → Bool) : Bool :=
  cl 12 [] H fun r1 h2 => asP r1 fun p3 => nilK q0 fun g4 o5 => fN (Nat.add o5 0) fun o6 => rowK h2 g4 fun cs7 => ldM cs7 o6 fun r8 => cl 52 [AV.s (AS.map r8)] h2 fun r9 h10 => cl 51 [r9] h10 fun r11 h12 => asSl r11 fun p13 l13 c13 z13 => (loopX lf (fun (self16 : (AP × AP × (AP × Nat × ACap × Nat) × Int × Int) → AH → Bool) (x14 : AP × AP × (AP × Nat × ACap × Nat) × Int × Int) (h15 : AH) => pR x14 fun p17 r18 => pR r18 fun p19 r20 => pR r20 fun u21 r21 => pR u21 fun p21 r21a => pR r21a fun l21 r21b => pR r21b fun c21 z21 => pR r21 fun n22 r23 => fB (iLt r23 n22) fun b25 => ifA b25 (nilK p21 fun g26 o27 => idxK r23 l21 fun m28 => fN (Nat.add o27 (Nat.mul m28 1)) fun o29 => rowK h15 g26 fun cs30 => ldI cs30 o29 .i64 fun n31 => nilK p17 fun g32 o33 => fN (Nat.add o33 0) fun o34 => rowK h15 g32 fun cs35 => ldM cs35 o34 fun r36 => asMp (AV.s (AS.map r36)) fun g40 => mapK h15 g40 fun es37 => lkZ es37 n31 (AV.agg [AS.int .i64 (Int.ofNat 0), AS.int .i64 (Int.ofNat 0)]) fun v38 b39 => asG v38 fun cs41 => cl 53 [AV.s (AS.ptr p19), AV.s (AS.int .i64 n31), AV.agg cs41] h15 fun r42 h43 => tup0 r42 (w64 (iAdd r23 (Int.ofNat 1)) fun n44 => self16 (p17, p19, (p21, l21, c21, z21), n22, n44) h43)) (K (AV.s (AS.ptr p19)) h15)) (q0, p3, (p13, l13, c13, z13), (Int.ofNat l13), (Int.ofNat 0)) h12)
def L13 : Nat → LoopA := fun id => match id with
  | 3 => ⟨AP × AP × (AP × Nat × ACap × Nat) × Int × Int, (.pair (EncA.ptr 0) (.pair (EncA.ptr 3) (.pair (EncA.slice 12) (.pair (EncA.int .i64 13) (EncA.int .i64 14)))))⟩
  | _ => noA
theorem E13 (lf : Nat) (cl : Cl) : PK.Eq [.ptr] (evFn Try.prog cl L13 noR noJ lf Try.f13) (B13 lf cl) := by intro q0 H K; kernel_rfl
theorem O13 (lf : Nat) (w0 : World) : OkB Try.prog w0 13 (PK.run [.ptr] (B13 lf)) := okb Try.checked.mixed (fn := Try.f13) rfl (E13 lf)
theorem M13 (lf : Nat) : MonoB (PK.run [.ptr] (B13 lf)) := mob (E13 lf)

/-- (*vedette/quad.Tree).Drop -/
def B18 (lf : Nat) (cl : Cl) (q0 : AP) (q1 : Int) (H : AH) (K : AV → AH → Bool) : Bool :=
  nilK q0 fun g1 o2 => fN (Nat.add o2 0) fun o3 => rowK H g1 fun cs4 => ldM cs4 o3 fun r5 => asMp (AV.s (AS.map r5)) fun g9 => mapK H g9 fun es6 => lkZ es6 q1 (AV.agg [AS.int .i64 (Int.ofNat 0), AS.int .i64 (Int.ofNat 0)]) fun v7 b8 => asG v7 fun cs10 => newK H (.row [AS.int .i64 (Int.ofNat 0), AS.int .i64 (Int.ofNat 0)]) fun g11 h12 => stoN h12 g11 0 2 cs10 fun h13 => fB (!b8) fun b14 => ifA b14 (K (AV.s (AS.int .i64 (Int.ofNat 15))) h13) (nilK q0 fun g15 o16 => fN (Nat.add o16 1) fun o17 => cl 57 [] h13 fun r18 h19 => asG r18 fun cs20 => cl 56 [AV.s (AS.ptr q0), AV.s (AS.ptr (.at g15 o17)), AV.agg cs20, AV.s (AS.int .i64 q1)] h19 fun r21 h22 => tup0 r21 (nilK q0 fun g23 o24 => fN (Nat.add o24 0) fun o25 => rowK h22 g23 fun cs26 => ldM cs26 o25 fun r27 => asMp (AV.s (AS.map r27)) fun g31 => mapK h22 g31 fun es28 => fL (delA es28 q1) fun es29 => wrK h22 g31 (some (.imap es29)) fun h30 => K (AV.s (AS.int .i64 (Int.ofNat 0))) h30))
def R18 : Nat → RegHint := fun id => match id with
  | 4 => ⟨(.op 0 (.op 1 (.op 2 (.op 3 (.op 5 (.op 4 (.op 6 .nil))))))), 0, 0, 5, 0⟩
  | _ => ⟨.nil, 0, 0, 0, 0⟩
theorem E18 (lf : Nat) (cl : Cl) : PK.Eq [.ptr, .int .i64] (evFn Try.prog cl noL R18 noJ lf Try.f18) (B18 lf cl) := by intro q0 q1 H K; kernel_rfl
theorem O18 (lf : Nat) (w0 : World) : OkB Try.prog w0 18 (PK.run [.ptr, .int .i64] (B18 lf)) := okb Try.checked.mixed (fn := Try.f18) rfl (E18 lf)
theorem M18 (lf : Nat) : MonoB (PK.run [.ptr, .int .i64] (B18 lf)) := mob (E18 lf)

/-- (*vedette/quad.Tree).In -/
def B23 (lf : Nat) (cl : Cl) (q0 : AP) (q1 : List AS) (H : AH) (K : AV → AH → Bool) : Bool :=
  newK H (.row q1) fun g1 h2 => nilK q0 fun g3 o4 => fN (Nat.add o4 1) fun o5 => getK h2 g1 fun k6 => rowK h2 g1 fun cs7 => ldG cs7 0 4 fun cs8 => cl 57 [] h2 fun r9 h10 => okK (kSame ((g1, k6) :: []) h10) (asG r9 fun cs11 => cl 58 [AV.s (AS.ptr q0), AV.s (AS.slice AP.nil 0 (.lit 0) 1), AV.s (AS.ptr (.at g3 o5)), AV.agg cs11, AV.agg cs8] h10 fun r12 h13 => asSl r12 fun p14 l14 c14 z14 => cl 59 [AV.s (AS.slice p14 l14 c14 z14)] h13 fun r15 h16 => tup0 r15 (K (AV.s (AS.slice p14 l14 c14 z14)) h16))
def R23 : Nat → RegHint := fun id => match id with
  | 1 => ⟨(.op 0 (.op 1 (.op 2 (.op 3 (.op 5 (.op 4 (.op 6 (.op 7 .nil)))))))), 16, 32, 5, 0⟩
  | _ => ⟨.nil, 0, 0, 0, 0⟩
theorem E23 (lf : Nat) (cl : Cl) : PK.Eq [.ptr, .agg] (evFn Try.prog cl noL R23 noJ lf Try.f23) (B23 lf cl) := by intro q0 q1 H K; kernel_rfl
theorem O23 (lf : Nat) (w0 : World) : OkB Try.prog w0 23 (PK.run [.ptr, .agg] (B23 lf)) := okb Try.checked.mixed (fn := Try.f23) rfl (E23 lf)
theorem M23 (lf : Nat) : MonoB (PK.run [.ptr, .agg] (B23 lf)) := mob (E23 lf)

/-- vedette/vedettelaw9.known -/
def B31 (lf : Nat) (cl : Cl)  (H : AH) (K : AV → AH → Bool) : Bool :=
  cl 32 [] H fun r1 h2 => asP r1 fun p3 => fL ((AS.int .i64 (Int.ofNat 5)) :: (ap (α := AS) [AS.int .i64 (Int.ofNat 3), AS.int .i64 (Int.ofNat 3)] [AS.int .i64 (Int.ofNat 0), AS.str [], AS.int .i64 (Int.ofNat 0), AS.str [], AS.int .i64 (Int.ofNat 0), AS.str [], AS.int .i64 (Int.ofNat 0), AS.str []])) fun cs4 => newK h2 (.row [AS.int .i64 (Int.ofNat 0), AS.int .i64 (Int.ofNat 0), AS.int .i64 (Int.ofNat 0), AS.int .i64 (Int.ofNat 0), AS.str [], AS.int .i64 (Int.ofNat 0), AS.str [], AS.int .i64 (Int.ofNat 0), AS.str [], AS.int .i64 (Int.ofNat 0), AS.str []]) fun g5 h6 => stoN h6 g5 0 11 cs4 fun h7 => fB (isNilP p3) fun b8 => ifA b8 (K (AV.s (AS.bool false)) h7) (rowK h7 g5 fun cs9 => ldG cs9 0 11 fun cs10 => cl 36 [AV.s (AS.ptr p3), AV.agg cs10] h7 fun r11 h12 => arI r11 .i64 fun n13 => fB (!iEq n13 (Int.ofNat 0)) fun b14 => ifA b14 (K (AV.s (AS.bool false)) h12) (rowK h12 g5 fun cs15 => ldG cs15 0 11 fun cs16 => cl 36 [AV.s (AS.ptr p3), AV.agg cs16] h12 fun r17 h18 => arI r17 .i64 fun n19 => fB (!iEq n19 (Int.ofNat 11)) fun b20 => ifA b20 (K (AV.s (AS.bool false)) h18) (cl 39 [AV.s (AS.ptr p3), AV.agg [AS.int .i64 (Int.ofNat 6), AS.int .i64 (Int.ofNat 0), AS.int .i64 (Int.ofNat 0), AS.int .i64 (Int.ofNat 0), AS.str [], AS.int .i64 (Int.ofNat 0), AS.str [], AS.int .i64 (Int.ofNat 0), AS.str [], AS.int .i64 (Int.ofNat 0), AS.str []]] h18 fun r21 h22 => arI r21 .i64 fun n23 => fB (!iEq n23 (Int.ofNat 15)) fun b24 => ifA b24 (K (AV.s (AS.bool false)) h22) (cl 40 [AV.s (AS.ptr p3), AV.s (AS.int .i64 (Int.ofNat 7))] h22 fun r25 h26 => arI r25 .i64 fun n27 => fB (!iEq n27 (Int.ofNat 15)) fun b28 => ifA b28 (K (AV.s (AS.bool false)) h26) (cl 48 [AV.s (AS.ptr p3), AV.s (AS.int .i64 (Int.ofNat 5))] h26 fun r29 h30 => tup2 r29 fun x31 x32 => asG x31 fun cs33 => arB x32 fun b34 => newK h30 (.row [AS.int .i64 (Int.ofNat 0), AS.int .i64 (Int.ofNat 0), AS.int .i64 (Int.ofNat 0), AS.int .i64 (Int.ofNat 0), AS.str [], AS.int .i64 (Int.ofNat 0), AS.str [], AS.int .i64 (Int.ofNat 0), AS.str [], AS.int .i64 (Int.ofNat 0), AS.str []]) fun g35 h36 => stoN h36 g35 0 11 cs33 fun h37 => ifA b34 (rowK h37 g35 fun cs38 => ldG cs38 0 11 fun cs39 => rowK h37 g5 fun cs40 => ldG cs40 0 11 fun cs41 => okK (leavesA [Leaf.int .i64, Leaf.int .i64, Leaf.int .i64, Leaf.int .i64, Leaf.str, Leaf.int .i64, Leaf.str, Leaf.int .i64, Leaf.str, Leaf.int .i64, Leaf.str] cs39 && leavesA [Leaf.int .i64, Leaf.int .i64, Leaf.int .i64, Leaf.int .i64, Leaf.str, Leaf.int .i64, Leaf.str, Leaf.int .i64, Leaf.str, Leaf.int .i64, Leaf.str] cs41) (fB (cellsEqA cs39 cs41) fun b42 => ifA b42 (cl 49 [AV.s (AS.ptr p3)] h37 fun r43 h44 => arI r43 .i64 fun n45 => fB (iEq n45 (Int.ofNat 1)) fun b46 => ifA b46 (cl 47 [AV.s (AS.ptr p3), AV.s (AS.int .i64 (Int.ofNat 0))] h44 fun r47 h48 => asSl r47 fun p49 l49 c49 z49 => fB (iEq (Int.ofNat l49) (Int.ofNat 1)) fun b50 => ifA b50 (cl 47 [AV.s (AS.ptr p3), AV.s (AS.int .i64 (Int.ofNat 1))] h48 fun r51 h52 => asSl r51 fun p53 l53 c53 z53 => fB (iEq (Int.ofNat l53) (Int.ofNat 0)) fun b54 => ifA b54 (cl 50 [AV.s (AS.ptr p3), AV.agg [AS.int .i64 (Int.ofNat 0), AS.int .i64 (Int.ofNat 0), AS.int .i64 (Int.ofNat 4), AS.int .i64 (Int.ofNat 4)]] h52 fun r55 h56 => asSl r55 fun p57 l57 c57 z57 => fB (iEq (Int.ofNat l57) (Int.ofNat 1)) fun b58 => ifA b58 (cl 45 [AV.s (AS.ptr p3)] h56 fun r59 h60 => asSl r59 fun p61 l61 c61 z61 => fB (iEq (Int.ofNat l61) (Int.ofNat 1)) fun b62 => ifA b62 (rowK h60 g5 fun cs63 => ldG cs63 0 11 fun cs64 => rowK h60 g5 fun cs65 => ldG cs65 0 11 fun cs66 => okK (Nat.beq (ln cs64) 11) (okK (Nat.beq (ln cs66) 11) (fL (ap (α := AS) cs64 (ap (α := AS) cs66 [])) fun cs67 => okK (Nat.beq (ln cs67) (2 * 11)) (newK h60 (.row cs67) fun g68 h69 => cl 44 [AV.s (AS.slice (.at g68 0) 2 (.lit 2) 11)] h69 fun r70 h71 => asP r70 fun p72 => cl 49 [AV.s (AS.ptr p72)] h71 fun r73 h74 => arI r73 .i64 fun n75 => fB (iEq n75 (Int.ofNat 1)) fun b76 => ifA b76 (cl 34 [AV.s (AS.ptr p3)] h74 fun r77 h78 => asP r77 fun p79 => cl 49 [AV.s (AS.ptr p79)] h78 fun r80 h81 => arI r80 .i64 fun n82 => fB (iEq n82 (Int.ofNat 1)) fun b83 => K (AV.s (AS.bool b83)) h81) (K (AV.s (AS.bool false)) h74))))) (K (AV.s (AS.bool false)) h60)) (K (AV.s (AS.bool false)) h56)) (K (AV.s (AS.bool false)) h52)) (K (AV.s (AS.bool false)) h48)) (K (AV.s (AS.bool false)) h44)) (K (AV.s (AS.bool false)) h37))) (K (AV.s (AS.bool false)) h37))))))
theorem E31 (lf : Nat) (cl : Cl) : PK.Eq [] (evFn Try.prog cl noL noR noJ lf Try.f31) (B31 lf cl) := by intro  H K; kernel_rfl
theorem O31 (lf : Nat) (w0 : World) : OkB Try.prog w0 31 (PK.run [] (B31 lf)) := okb Try.checked.mixed (fn := Try.f31) rfl (E31 lf)
theorem M31 (lf : Nat) : MonoB (PK.run [] (B31 lf)) := mob (E31 lf)

/-- vedette/table.New -/
def B32 (lf : Nat) (cl : Cl)  (H : AH) (K : AV → AH → Bool) : Bool :=
  newK H (.imap []) fun g1 h2 => cl 12 [] h2 fun r3 h4 => asP r3 fun p5 => newK h4 (.row [AS.map (some g1), AS.ptr p5]) fun g6 h7 => K (AV.s (AS.ptr (.at g6 0))) h7
theorem E32 (lf : Nat) (cl : Cl) : PK.Eq [] (evFn Try.prog cl noL noR noJ lf Try.f32) (B32 lf cl) := by intro  H K; kernel_rfl
theorem O32 (lf : Nat) (w0 : World) : OkB Try.prog w0 32 (PK.run [] (B32 lf)) := okb Try.checked.mixed (fn := Try.f32) rfl (E32 lf)
theorem M32 (lf : Nat) : MonoB (PK.run [] (B32 lf)) := mob (E32 lf)

/-- (*vedette/table.Table).Copy -/
def B34 (lf : Nat) (cl : Cl) (q0 : AP) (H : AH) (K : AV → AH → Bool) : Bool :=
  nilK q0 fun g1 o2 => fN (Nat.add o2 0) fun o3 => rowK H g1 fun cs4 => ldM cs4 o3 fun r5 => nilK q0 fun g6 o7 => fN (Nat.add o7 1) fun o8 => getK H g6 fun k9 => rowK H g6 fun cs10 => ldP cs10 o8 fun p11 => cl 66 [AV.s (AS.map r5)] H fun r12 h13 => okK (kSame ((g6, k9) :: []) h13) (arM r12 fun r14 => cl 13 [AV.s (AS.ptr p11)] h13 fun r15 h16 => asP r15 fun p17 => newK h16 (.row [AS.map r14, AS.ptr p17]) fun g18 h19 => K (AV.s (AS.ptr (.at g18 0))) h19)
def R34 : Nat → RegHint := fun id => match id with
  | 1 => ⟨(.op 0 (.op 1 (.op 2 (.op 3 (.op 5 (.op 6 (.op 7 (.op 8 (.op 4 (.op 9 (.op 10 (.op 11 (.op 12 .nil))))))))))))), 16, 256, 8, 0⟩
  | _ => ⟨.nil, 0, 0, 0, 0⟩
theorem E34 (lf : Nat) (cl : Cl) : PK.Eq [.ptr] (evFn Try.prog cl noL R34 noJ lf Try.f34) (B34 lf cl) := by intro q0 H K; kernel_rfl
theorem O34 (lf : Nat) (w0 : World) : OkB Try.prog w0 34 (PK.run [.ptr] (B34 lf)) := okb Try.checked.mixed (fn := Try.f34) rfl (E34 lf)
theorem M34 (lf : Nat) : MonoB (PK.run [.ptr] (B34 lf)) := mob (E34 lf)

/-- (*vedette/table.Table).Put -/
def B36 (lf : Nat) (cl : Cl) (q0 : AP) (q1 : List AS) (H : AH) (K : AV → AH → Bool) : Bool :=
  newK H (.row q1) fun g1 h2 => nilK q0 fun g3 o4 => fN (Nat.add o4 0) fun o5 => getK h2 g3 fun k6 => rowK h2 g3 fun cs7 => ldM cs7 o5 fun r8 => getK h2 g1 fun k9 => rowK h2 g1 fun cs10 => ldI cs10 0 .i64 fun n11 => asMp (AV.s (AS.map r8)) fun g13 => getK h2 g13 fun k12 => asMp (AV.s (AS.map r8)) fun g17 => mapK h2 g17 fun es14 => lkZ es14 n11 (AV.agg [AS.int .i64 (Int.ofNat 0), AS.int .i64 (Int.ofNat 0), AS.int .i64 (Int.ofNat 0), AS.int .i64 (Int.ofNat 0), AS.str [], AS.int .i64 (Int.ofNat 0), AS.str [], AS.int .i64 (Int.ofNat 0), AS.str [], AS.int .i64 (Int.ofNat 0), AS.str []]) fun v15 b16 => asG v15 fun cs18 => newK h2 (.row [AS.int .i64 (Int.ofNat 0), AS.int .i64 (Int.ofNat 0), AS.int .i64 (Int.ofNat 0), AS.int .i64 (Int.ofNat 0), AS.str [], AS.int .i64 (Int.ofNat 0), AS.str [], AS.int .i64 (Int.ofNat 0), AS.str [], AS.int .i64 (Int.ofNat 0), AS.str []]) fun g19 h20 => stoN h20 g19 0 11 cs18 fun h21 => joinX (fun (x28 : AP × AP × Bool) (h29 : AH) => pR x28 fun p31 r32 => pR r32 fun p33 r34 => ifA r34 (K (AV.s (AS.int .i64 (Int.ofNat 11))) h29) (nilK p31 fun g36 o37 => fN (Nat.add o37 0) fun o38 => rowK h29 g36 fun cs39 => ldM cs39 o38 fun r40 => asMp (AV.s (AS.map r40)) fun g42 => mapK h29 g42 fun es41 => fN (ln es41) fun o43 => fB (iLe (Int.ofNat 200) (Int.ofNat o43)) fun b44 => ifA b44 (K (AV.s (AS.int .i64 (Int.ofNat 16))) h29) (nilK p33 fun g45 o46 => rowK h29 g45 fun cs47 => ldG cs47 o46 11 fun cs48 => cl 68 [AV.s (AS.ptr p31), AV.agg cs48] h29 fun r49 h50 => tup0 r49 (K (AV.s (AS.int .i64 (Int.ofNat 0))) h50)))) fun J30 => rowK h21 g1 fun cs22 => ldG cs22 0 11 fun cs23 => cl 67 [AV.agg cs23] h21 fun r24 h25 => arB r24 fun b26 => fB (!b26) fun b27 => ifA b27 (J30 (q0, (.at g1 0), true) h25) (J30 (q0, (.at g1 0), b16) h25)
def R36 : Nat → RegHint := fun id => match id with
  | 1 => ⟨(.op 0 (.op 1 (.op 2 (.op 3 (.op 4 (.op 5 (.op 6 (.op 7 (.op 8 (.op 9 (.op 10 (.op 11 (.op 12 .nil))))))))))))), 1024, 104, 10, 0⟩
  | _ => ⟨.nil, 0, 0, 0, 0⟩
def J36 : Option Nat → Option LoopA := fun id => match id with
  | some 3 => some ⟨AP × AP × Bool, (.pair (EncA.ptr 0) (.pair (EncA.ptr 3) (EncA.bool 17)))⟩
  | _ => none
theorem E36 (lf : Nat) (cl : Cl) : PK.Eq [.ptr, .agg] (evFn Try.prog cl noL R36 J36 lf Try.f36) (B36 lf cl) := by intro q0 q1 H K; kernel_rfl
theorem O36 (lf : Nat) (w0 : World) : OkB Try.prog w0 36 (PK.run [.ptr, .agg] (B36 lf)) := okb Try.checked.mixed (fn := Try.f36) rfl (E36 lf)
theorem M36 (lf : Nat) : MonoB (PK.run [.ptr, .agg] (B36 lf)) := mob (E36 lf)

/-- (*vedette/table.Table).Set -/
def B39 (lf : Nat) (cl : Cl) (q0 : AP) (q1 : List AS) (H : AH) (K : AV → AH → Bool) : Bool :=
  newK H (.row q1) fun g1 h2 => rowK h2 g1 fun cs3 => ldG cs3 0 11 fun cs4 => cl 67 [AV.agg cs4] h2 fun r5 h6 => arB r5 fun b7 => fB (!b7) fun b8 => ifA b8 (K (AV.s (AS.int .i64 (Int.ofNat 11))) h6) (nilK q0 fun g9 o10 => fN (Nat.add o10 0) fun o11 => getK h6 g9 fun k12 => rowK h6 g9 fun cs13 => ldM cs13 o11 fun r14 => getK h6 g1 fun k15 => rowK h6 g1 fun cs16 => ldI cs16 0 .i64 fun n17 => asMp (AV.s (AS.map r14)) fun g19 => getK h6 g19 fun k18 => asMp (AV.s (AS.map r14)) fun g23 => mapK h6 g23 fun es20 => lkZ es20 n17 (AV.agg [AS.int .i64 (Int.ofNat 0), AS.int .i64 (Int.ofNat 0), AS.int .i64 (Int.ofNat 0), AS.int .i64 (Int.ofNat 0), AS.str [], AS.int .i64 (Int.ofNat 0), AS.str [], AS.int .i64 (Int.ofNat 0), AS.str [], AS.int .i64 (Int.ofNat 0), AS.str []]) fun v21 b22 => asG v21 fun cs24 => newK h6 (.row [AS.int .i64 (Int.ofNat 0), AS.int .i64 (Int.ofNat 0), AS.int .i64 (Int.ofNat 0), AS.int .i64 (Int.ofNat 0), AS.str [], AS.int .i64 (Int.ofNat 0), AS.str [], AS.int .i64 (Int.ofNat 0), AS.str [], AS.int .i64 (Int.ofNat 0), AS.str []]) fun g25 h26 => stoN h26 g25 0 11 cs24 fun h27 => fB (!b22) fun b28 => ifA b28 (K (AV.s (AS.int .i64 (Int.ofNat 15))) h27) (rowK h27 g1 fun cs29 => ldG cs29 0 11 fun cs30 => cl 68 [AV.s (AS.ptr q0), AV.agg cs30] h27 fun r31 h32 => tup0 r31 (K (AV.s (AS.int .i64 (Int.ofNat 0))) h32)))
def R39 : Nat → RegHint := fun id => match id with
  | 3 => ⟨(.op 0 (.op 1 (.op 2 (.op 3 (.op 4 (.op 5 (.op 6 (.op 7 (.op 8 (.op 9 (.op 10 (.op 11 (.op 12 .nil))))))))))))), 1024, 104, 10, 0⟩
  | _ => ⟨.nil, 0, 0, 0, 0⟩
theorem E39 (lf : Nat) (cl : Cl) : PK.Eq [.ptr, .agg] (evFn Try.prog cl noL R39 noJ lf Try.f39) (B39 lf cl) := by intro q0 q1 H K; kernel_rfl
theorem O39 (lf : Nat) (w0 : World) : OkB Try.prog w0 39 (PK.run [.ptr, .agg] (B39 lf)) := okb Try.checked.mixed (fn := Try.f39) rfl (E39 lf)
theorem M39 (lf : Nat) : MonoB (PK.run [.ptr, .agg] (B39 lf)) := mob (E39 lf)

/-- (*vedette/table.Table).Drop -/
def B40 (lf : Nat) (cl : Cl) (q0 : AP) (q1 : Int) (H : AH) (K : AV → AH → Bool) : Bool :=
  nilK q0 fun g1 o2 => fN (Nat.add o2 0) fun o3 => rowK H g1 fun cs4 => ldM cs4 o3 fun r5 => asMp (AV.s (AS.map r5)) fun g9 => mapK H g9 fun es6 => lkZ es6 q1 (AV.agg [AS.int .i64 (Int.ofNat 0), AS.int .i64 (Int.ofNat 0), AS.int .i64 (Int.ofNat 0), AS.int .i64 (Int.ofNat 0), AS.str [], AS.int .i64 (Int.ofNat 0), AS.str [], AS.int .i64 (Int.ofNat 0), AS.str [], AS.int .i64 (Int.ofNat 0), AS.str []]) fun v7 b8 => asG v7 fun cs10 => newK H (.row [AS.int .i64 (Int.ofNat 0), AS.int .i64 (Int.ofNat 0), AS.int .i64 (Int.ofNat 0), AS.int .i64 (Int.ofNat 0), AS.str [], AS.int .i64 (Int.ofNat 0), AS.str [], AS.int .i64 (Int.ofNat 0), AS.str [], AS.int .i64 (Int.ofNat 0), AS.str []]) fun g11 h12 => stoN h12 g11 0 11 cs10 fun h13 => fB (!b8) fun b14 => ifA b14 (K (AV.s (AS.int .i64 (Int.ofNat 15))) h13) (nilK q0 fun g15 o16 => fN (Nat.add o16 0) fun o17 => rowK h13 g15 fun cs18 => ldM cs18 o17 fun r19 => asMp (AV.s (AS.map r19)) fun g23 => mapK h13 g23 fun es20 => fL (delA es20 q1) fun es21 => wrK h13 g23 (some (.imap es21)) fun h22 => nilK q0 fun g24 o25 => fN (Nat.add o25 1) fun o26 => rowK h22 g24 fun cs27 => ldP cs27 o26 fun p28 => cl 18 [AV.s (AS.ptr p28), AV.s (AS.int .i64 q1)] h22 fun r29 h30 => arI r29 .i64 fun n31 => K (AV.s (AS.int .i64 (Int.ofNat 0))) h30)
theorem E40 (lf : Nat) (cl : Cl) : PK.Eq [.ptr, .int .i64] (evFn Try.prog cl noL noR noJ lf Try.f40) (B40 lf cl) := by intro q0 q1 H K; kernel_rfl
theorem O40 (lf : Nat) (w0 : World) : OkB Try.prog w0 40 (PK.run [.ptr, .int .i64] (B40 lf)) := okb Try.checked.mixed (fn := Try.f40) rfl (E40 lf)
theorem M40 (lf : Nat) : MonoB (PK.run [.ptr, .int .i64] (B40 lf)) := mob (E40 lf)

/-- vedette/table.Of -/
def B44 (lf : Nat) (cl : Cl) (q0p : AP) (q0n : Nat) (q0c : ACap) (q0z : Nat) (H : AH) (K : AV → AH → Bool) : Bool :=
  cl 32 [] H fun r1 h2 => asP r1 fun p3 => (loopX lf (fun (self6 : (AP × (AP × Nat × ACap × Nat) × Int × Int) → AH → Bool) (x4 : AP × (AP × Nat × ACap × Nat) × Int × Int) (h5 : AH) => pR x4 fun p7 r8 => pR r8 fun u9 r9 => pR u9 fun p9 r9a => pR r9a fun l9 r9b => pR r9b fun c9 z9 => pR r9 fun n10 r11 => fB (iLt r11 n10) fun b13 => ifA b13 (nilK p9 fun g14 o15 => idxK r11 l9 fun m16 => fN (Nat.add o15 (Nat.mul m16 11)) fun o17 => rowK h5 g14 fun cs18 => ldG cs18 o17 11 fun cs19 => newK h5 (.row [AS.int .i64 (Int.ofNat 0), AS.int .i64 (Int.ofNat 0), AS.int .i64 (Int.ofNat 0), AS.int .i64 (Int.ofNat 0), AS.str [], AS.int .i64 (Int.ofNat 0), AS.str [], AS.int .i64 (Int.ofNat 0), AS.str [], AS.int .i64 (Int.ofNat 0), AS.str []]) fun g20 h21 => stoN h21 g20 0 11 cs19 fun h22 => rowK h22 g20 fun cs23 => ldG cs23 0 11 fun cs24 => cl 36 [AV.s (AS.ptr p7), AV.agg cs24] h22 fun r25 h26 => arI r25 .i64 fun n27 => w64 (iAdd r11 (Int.ofNat 1)) fun n28 => self6 (p7, (p9, l9, c9, z9), n10, n28) h26) (K (AV.s (AS.ptr p7)) h5)) (p3, (q0p, q0n, q0c, q0z), (Int.ofNat q0n), (Int.ofNat 0)) h2)
def L44 : Nat → LoopA := fun id => match id with
  | 3 => ⟨AP × (AP × Nat × ACap × Nat) × Int × Int, (.pair (EncA.ptr 3) (.pair (EncA.slice 7) (.pair (EncA.int .i64 8) (EncA.int .i64 9))))⟩
  | _ => noA
theorem E44 (lf : Nat) (cl : Cl) : PK.Eq [.slice] (evFn Try.prog cl L44 noR noJ lf Try.f44) (B44 lf cl) := by intro q0p q0n q0c q0z H K; kernel_rfl
theorem O44 (lf : Nat) (w0 : World) : OkB Try.prog w0 44 (PK.run [.slice] (B44 lf)) := okb Try.checked.mixed (fn := Try.f44) rfl (E44 lf)
theorem M44 (lf : Nat) : MonoB (PK.run [.slice] (B44 lf)) := mob (E44 lf)

/-- (*vedette/table.Table).All -/
def B45 (lf : Nat) (cl : Cl) (q0 : AP) (H : AH) (K : AV → AH → Bool) : Bool :=
  nilK q0 fun g1 o2 => fN (Nat.add o2 0) fun o3 => rowK H g1 fun cs4 => ldM cs4 o3 fun r5 => cl 73 [AV.s (AS.map r5)] H fun r6 h7 => cl 51 [r6] h7 fun r8 h9 => asSl r8 fun p10 l10 c10 z10 => cl 72 [AV.s (AS.ptr q0), AV.s (AS.slice p10 l10 c10 z10)] h9 fun r11 h12 => asSl r11 fun p13 l13 c13 z13 => K (AV.s (AS.slice p13 l13 c13 z13)) h12
theorem E45 (lf : Nat) (cl : Cl) : PK.Eq [.ptr] (evFn Try.prog cl noL noR noJ lf Try.f45) (B45 lf cl) := by intro q0 H K; kernel_rfl
theorem O45 (lf : Nat) (w0 : World) : OkB Try.prog w0 45 (PK.run [.ptr] (B45 lf)) := okb Try.checked.mixed (fn := Try.f45) rfl (E45 lf)
theorem M45 (lf : Nat) : MonoB (PK.run [.ptr] (B45 lf)) := mob (E45 lf)

/-- (*vedette/table.Table).Cell -/
def B47 (lf : Nat) (cl : Cl) (q0 : AP) (q1 : Int) (H : AH) (K : AV → AH → Bool) : Bool :=
  cl 74 [AV.s (AS.int .i64 q1)] H fun r1 h2 => tup2 r1 fun x3 x4 => asG x3 fun cs5 => arB x4 fun b6 => newK h2 (.row [AS.int .i64 (Int.ofNat 0), AS.int .i64 (Int.ofNat 0), AS.int .i64 (Int.ofNat 0), AS.int .i64 (Int.ofNat 0)]) fun g7 h8 => stoN h8 g7 0 4 cs5 fun h9 => fB (!b6) fun b10 => ifA b10 (K (AV.s (AS.slice AP.nil 0 (.lit 0) 1)) h9) (rowK h9 g7 fun cs11 => ldG cs11 0 4 fun cs12 => cl 50 [AV.s (AS.ptr q0), AV.agg cs12] h9 fun r13 h14 => asSl r13 fun p15 l15 c15 z15 => K (AV.s (AS.slice p15 l15 c15 z15)) h14)
theorem E47 (lf : Nat) (cl : Cl) : PK.Eq [.ptr, .int .i64] (evFn Try.prog cl noL noR noJ lf Try.f47) (B47 lf cl) := by intro q0 q1 H K; kernel_rfl
theorem O47 (lf : Nat) (w0 : World) : OkB Try.prog w0 47 (PK.run [.ptr, .int .i64] (B47 lf)) := okb Try.checked.mixed (fn := Try.f47) rfl (E47 lf)
theorem M47 (lf : Nat) : MonoB (PK.run [.ptr, .int .i64] (B47 lf)) := mob (E47 lf)

/-- (*vedette/table.Table).Get -/
def B48 (lf : Nat) (cl : Cl) (q0 : AP) (q1 : Int) (H : AH) (K : AV → AH → Bool) : Bool :=
  newK H (.row [AS.int .i64 (Int.ofNat 0), AS.int .i64 (Int.ofNat 0), AS.int .i64 (Int.ofNat 0), AS.int .i64 (Int.ofNat 0), AS.str [], AS.int .i64 (Int.ofNat 0), AS.str [], AS.int .i64 (Int.ofNat 0), AS.str [], AS.int .i64 (Int.ofNat 0), AS.str []]) fun g1 h2 => nilK q0 fun g3 o4 => fN (Nat.add o4 0) fun o5 => rowK h2 g3 fun cs6 => ldM cs6 o5 fun r7 => asMp (AV.s (AS.map r7)) fun g11 => mapK h2 g11 fun es8 => lkZ es8 q1 (AV.agg [AS.int .i64 (Int.ofNat 0), AS.int .i64 (Int.ofNat 0), AS.int .i64 (Int.ofNat 0), AS.int .i64 (Int.ofNat 0), AS.str [], AS.int .i64 (Int.ofNat 0), AS.str [], AS.int .i64 (Int.ofNat 0), AS.str [], AS.int .i64 (Int.ofNat 0), AS.str []]) fun v9 b10 => asG v9 fun cs12 => newK h2 (.row [AS.int .i64 (Int.ofNat 0), AS.int .i64 (Int.ofNat 0), AS.int .i64 (Int.ofNat 0), AS.int .i64 (Int.ofNat 0), AS.str [], AS.int .i64 (Int.ofNat 0), AS.str [], AS.int .i64 (Int.ofNat 0), AS.str [], AS.int .i64 (Int.ofNat 0), AS.str []]) fun g13 h14 => stoN h14 g13 0 11 cs12 fun h15 => rowK h15 g13 fun cs16 => ldG cs16 0 11 fun cs17 => stoN h15 g1 0 11 cs17 fun h18 => rowK h18 g1 fun cs19 => ldG cs19 0 11 fun cs20 => K (AV.tup [AV.agg cs20, AV.s (AS.bool b10)]) h18
theorem E48 (lf : Nat) (cl : Cl) : PK.Eq [.ptr, .int .i64] (evFn Try.prog cl noL noR noJ lf Try.f48) (B48 lf cl) := by intro q0 q1 H K; kernel_rfl
theorem O48 (lf : Nat) (w0 : World) : OkB Try.prog w0 48 (PK.run [.ptr, .int .i64] (B48 lf)) := okb Try.checked.mixed (fn := Try.f48) rfl (E48 lf)
theorem M48 (lf : Nat) : MonoB (PK.run [.ptr, .int .i64] (B48 lf)) := mob (E48 lf)

/-- (*vedette/table.Table).Len -/
def B49 (lf : Nat) (cl : Cl) (q0 : AP) (H : AH) (K : AV → AH → Bool) : Bool :=
  nilK q0 fun g1 o2 => fN (Nat.add o2 0) fun o3 => rowK H g1 fun cs4 => ldM cs4 o3 fun r5 => asMp (AV.s (AS.map r5)) fun g7 => mapK H g7 fun es6 => fN (ln es6) fun o8 => K (AV.s (AS.int .i64 (Int.ofNat o8))) H
theorem E49 (lf : Nat) (cl : Cl) : PK.Eq [.ptr] (evFn Try.prog cl noL noR noJ lf Try.f49) (B49 lf cl) := by intro q0 H K; kernel_rfl
theorem O49 (lf : Nat) (w0 : World) : OkB Try.prog w0 49 (PK.run [.ptr] (B49 lf)) := okb Try.checked.mixed (fn := Try.f49) rfl (E49 lf)
theorem M49 (lf : Nat) : MonoB (PK.run [.ptr] (B49 lf)) := mob (E49 lf)

/-- (*vedette/table.Table).In -/
def B50 (lf : Nat) (cl : Cl) (q0 : AP) (q1 : List AS) (H : AH) (K : AV → AH → Bool) : Bool :=
  newK H (.row q1) fun g1 h2 => nilK q0 fun g3 o4 => fN (Nat.add o4 1) fun o5 => rowK h2 g3 fun cs6 => ldP cs6 o5 fun p7 => rowK h2 g1 fun cs8 => ldG cs8 0 4 fun cs9 => cl 23 [AV.s (AS.ptr p7), AV.agg cs9] h2 fun r10 h11 => asSl r10 fun p12 l12 c12 z12 => cl 72 [AV.s (AS.ptr q0), AV.s (AS.slice p12 l12 c12 z12)] h11 fun r13 h14 => asSl r13 fun p15 l15 c15 z15 => K (AV.s (AS.slice p15 l15 c15 z15)) h14
def R50 : Nat → RegHint := fun id => match id with
  | 1 => ⟨(.op 0 (.op 1 (.op 2 (.op 3 (.op 4 (.op 5 (.op 6 (.op 7 (.op 8 .nil))))))))), 0, 0, 6, 0⟩
  | _ => ⟨.nil, 0, 0, 0, 0⟩
theorem E50 (lf : Nat) (cl : Cl) : PK.Eq [.ptr, .agg] (evFn Try.prog cl noL R50 noJ lf Try.f50) (B50 lf cl) := by intro q0 q1 H K; kernel_rfl
theorem O50 (lf : Nat) (w0 : World) : OkB Try.prog w0 50 (PK.run [.ptr, .agg] (B50 lf)) := okb Try.checked.mixed (fn := Try.f50) rfl (E50 lf)
theorem M50 (lf : Nat) : MonoB (PK.run [.ptr, .agg] (B50 lf)) := mob (E50 lf)

/-- (*vedette/quad.Tree).Lay -/
def B53 (lf : Nat) (cl : Cl) (q0 : AP) (q1 : Int) (q2 : List AS) (H : AH) (K : AV → AH → Bool) : Bool :=
  newK H (.row q2) fun g1 h2 => nilK q0 fun g3 o4 => fN (Nat.add o4 0) fun o5 => rowK h2 g3 fun cs6 => ldM cs6 o5 fun r7 => rowK h2 g1 fun cs8 => ldG cs8 0 2 fun cs9 => asMp (AV.s (AS.map r7)) fun g13 => mapK h2 g13 fun es10 => fL (setA es10 q1 (AV.agg cs9)) fun es11 => wrK h2 g13 (some (.imap es11)) fun h12 => nilK q0 fun g14 o15 => fN (Nat.add o15 1) fun o16 => cl 57 [] h12 fun r17 h18 => asG r17 fun cs19 => cl 77 [AV.s (AS.ptr q0), AV.s (AS.ptr (.at g14 o16)), AV.agg cs19, AV.s (AS.int .i64 (Int.ofNat 0)), AV.s (AS.int .i64 q1)] h18 fun r20 h21 => tup0 r20 (K (AV.tup []) h21)
def R53 : Nat → RegHint := fun id => match id with
  | 1 => ⟨(.op 0 (.op 1 (.op 2 (.op 3 (.op 4 (.op 5 (.op 6 .nil))))))), 0, 0, 6, 0⟩
  | 2 => ⟨(.op 0 (.op 1 (.op 2 (.op 3 (.op 5 (.op 4 (.op 6 .nil))))))), 0, 0, 5, 0⟩
  | _ => ⟨.nil, 0, 0, 0, 0⟩
theorem E53 (lf : Nat) (cl : Cl) : PK.Eq [.ptr, .int .i64, .agg] (evFn Try.prog cl noL R53 noJ lf Try.f53) (B53 lf cl) := by intro q0 q1 q2 H K; kernel_rfl
theorem O53 (lf : Nat) (w0 : World) : OkB Try.prog w0 53 (PK.run [.ptr, .int .i64, .agg] (B53 lf)) := okb Try.checked.mixed (fn := Try.f53) rfl (E53 lf)
theorem M53 (lf : Nat) : MonoB (PK.run [.ptr, .int .i64, .agg] (B53 lf)) := mob (E53 lf)

/-- vedette/geom.On -/
def B54 (lf : Nat) (cl : Cl) (q0 : List AS) (H : AH) (K : AV → AH → Bool) : Bool :=
  newK H (.row q0) fun g1 h2 => rowK h2 g1 fun cs3 => ldI cs3 0 .i64 fun n4 => fB (iLe (Int.ofNat 0) n4) fun b5 => ifA b5 (rowK h2 g1 fun cs6 => ldI cs6 0 .i64 fun n7 => fB (iLt n7 (Int.ofNat 64)) fun b8 => ifA b8 (rowK h2 g1 fun cs9 => ldI cs9 1 .i64 fun n10 => fB (iLe (Int.ofNat 0) n10) fun b11 => ifA b11 (rowK h2 g1 fun cs12 => ldI cs12 1 .i64 fun n13 => fB (iLt n13 (Int.ofNat 64)) fun b14 => K (AV.s (AS.bool b14)) h2) (K (AV.s (AS.bool false)) h2)) (K (AV.s (AS.bool false)) h2)) (K (AV.s (AS.bool false)) h2)
theorem E54 (lf : Nat) (cl : Cl) : PK.Eq [.agg] (evFn Try.prog cl noL noR noJ lf Try.f54) (B54 lf cl) := by intro q0 H K; kernel_rfl
theorem O54 (lf : Nat) (w0 : World) : OkB Try.prog w0 54 (PK.run [.agg] (B54 lf)) := okb Try.checked.mixed (fn := Try.f54) rfl (E54 lf)
theorem M54 (lf : Nat) : MonoB (PK.run [.agg] (B54 lf)) := mob (E54 lf)

/-- (*vedette/quad.Tree).remove -/
def B56 (lf : Nat) (cl : Cl) (q0 : AP) (q1 : AP) (q2 : List AS) (q3 : Int) (H : AH) (K : AV → AH → Bool) : Bool :=
  newK H (.row q2) fun g1 h2 => newK h2 (.row [AS.int .i64 q3]) fun g3 h4 => nilK q1 fun g5 o6 => fN (Nat.add o6 0) fun o7 => rowK h4 g5 fun cs8 => ldI cs8 o7 .i64 fun n9 => w64 (iSub n9 (Int.ofNat 1)) fun n10 => nilK q1 fun g11 o12 => fN (Nat.add o12 0) fun o13 => sto1 h4 g11 o13 (AS.int .i64 n10) fun h14 => nilK q1 fun g15 o16 => fN (Nat.add o16 2) fun o17 => rowK h14 g15 fun cs18 => ldP cs18 o17 fun p19 => fB (isNilP p19) fun b20 => ifA b20 (nilK q1 fun g21 o22 => fN (Nat.add o22 1) fun o23 => rowK h14 g21 fun cs24 => ldSl cs24 o23 fun p25 l25 c25 z25 => cl 78 [AV.s (AS.slice p25 l25 c25 z25), AV.s (AS.func 79 [] [AS.ptr (.at g3 0)])] h14 fun r26 h27 => asSl r26 fun p28 l28 c28 z28 => nilK q1 fun g29 o30 => fN (Nat.add o30 1) fun o31 => sto1 h27 g29 o31 (AS.slice p28 l28 c28 z28) fun h32 => K (AV.tup []) h32) (rowK h14 g1 fun cs33 => ldG cs33 0 4 fun cs34 => nilK q0 fun g35 o36 => fN (Nat.add o36 0) fun o37 => rowK h14 g35 fun cs38 => ldM cs38 o37 fun r39 => rowK h14 g3 fun cs40 => ldI cs40 0 .i64 fun n41 => asMp (AV.s (AS.map r39)) fun g45 => mapK h14 g45 fun es42 => lkZ es42 n41 (AV.agg [AS.int .i64 (Int.ofNat 0), AS.int .i64 (Int.ofNat 0)]) fun v43 b44 => asG v43 fun cs46 => cl 80 [AV.agg cs34, AV.agg cs46] h14 fun r47 h48 => arI r47 .i64 fun n49 => nilK q1 fun g50 o51 => fN (Nat.add o51 2) fun o52 => getK h48 g50 fun k53 => rowK h48 g50 fun cs54 => ldP cs54 o52 fun p55 => nilK p55 fun g56 o57 => idxK n49 4 fun m58 => fN (Nat.add o57 (Nat.mul m58 3)) fun o59 => rowK h48 g1 fun cs60 => ldG cs60 0 4 fun cs61 => getK h48 g3 fun k62 => rowK h48 g3 fun cs63 => ldI cs63 0 .i64 fun n64 => cl 81 [AV.agg cs61, AV.s (AS.int .i64 n49)] h48 fun r65 h66 => okK (kSame ((g3, k62) :: ((g50, k53) :: [])) h66) (asG r65 fun cs67 => cl 56 [AV.s (AS.ptr q0), AV.s (AS.ptr (.at g56 o59)), AV.agg cs67, AV.s (AS.int .i64 n64)] h66 fun r68 h69 => tup0 r68 (nilK q1 fun g70 o71 => fN (Nat.add o71 0) fun o72 => rowK h69 g70 fun cs73 => ldI cs73 o72 .i64 fun n74 => fB (iLe n74 (Int.ofNat 4)) fun b75 => ifA b75 (cl 82 [AV.s (AS.ptr q1)] h69 fun r76 h77 => asSl r76 fun p78 l78 c78 z78 => nilK q1 fun g79 o80 => fN (Nat.add o80 1) fun o81 => sto1 h77 g79 o81 (AS.slice p78 l78 c78 z78) fun h82 => nilK q1 fun g83 o84 => fN (Nat.add o84 2) fun o85 => sto1 h82 g83 o85 (AS.ptr AP.nil) fun h86 => K (AV.tup []) h86) (K (AV.tup []) h69))))
def R56 : Nat → RegHint := fun id => match id with
  | 4 => ⟨(.op 0 (.op 1 (.op 2 (.op 3 (.op 4 (.op 5 (.op 6 (.op 7 (.op 8 .nil))))))))), 0, 0, 7, 0⟩
  | 5 => ⟨(.op 0 (.op 1 (.op 2 (.op 3 (.op 4 (.op 5 (.op 6 (.op 7 (.op 8 (.op 9 (.op 11 (.op 10 (.op 12 .nil))))))))))))), 1024, 2064, 11, 0⟩
  | _ => ⟨.nil, 0, 0, 0, 0⟩
theorem E56 (lf : Nat) (cl : Cl) : PK.Eq [.ptr, .ptr, .agg, .int .i64] (evFn Try.prog cl noL R56 noJ lf Try.f56) (B56 lf cl) := by intro q0 q1 q2 q3 H K; kernel_rfl
theorem O56 (lf : Nat) (w0 : World) : OkB Try.prog w0 56 (PK.run [.ptr, .ptr, .agg, .int .i64] (B56 lf)) := okb Try.checked.mixed (fn := Try.f56) rfl (E56 lf)
theorem M56 (lf : Nat) : MonoB (PK.run [.ptr, .ptr, .agg, .int .i64] (B56 lf)) := mob (E56 lf)

/-- vedette/quad.whole -/
def B57 (lf : Nat) (cl : Cl)  (H : AH) (K : AV → AH → Bool) : Bool :=
  newK H (.row [AS.int .i64 (Int.ofNat 0), AS.int .i64 (Int.ofNat 0), AS.int .i64 (Int.ofNat 0), AS.int .i64 (Int.ofNat 0)]) fun g1 h2 => stoN h2 g1 0 4 [AS.int .i64 (Int.ofNat 0), AS.int .i64 (Int.ofNat 0), AS.int .i64 (Int.ofNat 64), AS.int .i64 (Int.ofNat 64)] fun h3 => rowK h3 g1 fun cs4 => ldG cs4 0 4 fun cs5 => K (AV.agg cs5) h3
theorem E57 (lf : Nat) (cl : Cl) : PK.Eq [] (evFn Try.prog cl noL noR noJ lf Try.f57) (B57 lf cl) := by intro  H K; kernel_rfl
theorem O57 (lf : Nat) (w0 : World) : OkB Try.prog w0 57 (PK.run [] (B57 lf)) := okb Try.checked.mixed (fn := Try.f57) rfl (E57 lf)
theorem M57 (lf : Nat) : MonoB (PK.run [] (B57 lf)) := mob (E57 lf)

/-- (*vedette/quad.Tree).in -/
def B58 (lf : Nat) (cl : Cl) (q0 : AP) (q1p : AP) (q1n : Nat) (q1c : ACap) (q1z : Nat) (q2 : AP) (q3 : List AS) (q4 : List AS) (H : AH) (K : AV → AH → Bool) : Bool :=
  newK H (.row q3) fun g1 h2 => newK h2 (.row q4) fun g3 h4 => nilK q2 fun g5 o6 => fN (Nat.add o6 0) fun o7 => rowK h4 g5 fun cs8 => ldI cs8 o7 .i64 fun n9 => fB (iEq n9 (Int.ofNat 0)) fun b10 => ifA b10 (K (AV.s (AS.slice q1p q1n q1c q1z)) h4) (rowK h4 g1 fun cs11 => ldG cs11 0 4 fun cs12 => rowK h4 g3 fun cs13 => ldG cs13 0 4 fun cs14 => cl 84 [AV.agg cs12, AV.agg cs14] h4 fun r15 h16 => asG r15 fun cs17 => cl 83 [AV.agg cs17] h16 fun r18 h19 => arB r18 fun b20 => ifA b20 (K (AV.s (AS.slice q1p q1n q1c q1z)) h19) (nilK q2 fun g21 o22 => fN (Nat.add o22 1) fun o23 => rowK h19 g21 fun cs24 => ldSl cs24 o23 fun p25 l25 c25 z25 => (loopX lf (fun (self28 : (AP × (AP × Nat × ACap × Nat) × AP × AP × AP × (AP × Nat × ACap × Nat) × Int × Int) → AH → Bool) (x26 : AP × (AP × Nat × ACap × Nat) × AP × AP × AP × (AP × Nat × ACap × Nat) × Int × Int) (h27 : AH) => pR x26 fun p29 r30 => pR r30 fun u31 r31 => pR u31 fun p31 r31a => pR r31a fun l31 r31b => pR r31b fun c31 z31 => pR r31 fun p32 r33 => pR r33 fun p34 r35 => pR r35 fun p36 r37 => pR r37 fun u38 r38 => pR u38 fun p38 r38a => pR r38a fun l38 r38b => pR r38b fun c38 z38 => pR r38 fun n39 r40 => fB (iLt r40 n39) fun b42 => ifA b42 (nilK p38 fun g43 o44 => idxK r40 l38 fun m45 => fN (Nat.add o44 (Nat.mul m45 1)) fun o46 => rowK h27 g43 fun cs47 => ldI cs47 o46 .i64 fun n48 => nilK p36 fun g49 o50 => rowK h27 g49 fun cs51 => ldG cs51 o50 4 fun cs52 => nilK p29 fun g53 o54 => fN (Nat.add o54 0) fun o55 => rowK h27 g53 fun cs56 => ldM cs56 o55 fun r57 => asMp (AV.s (AS.map r57)) fun g61 => mapK h27 g61 fun es58 => lkZ es58 n48 (AV.agg [AS.int .i64 (Int.ofNat 0), AS.int .i64 (Int.ofNat 0)]) fun v59 b60 => asG v59 fun cs62 => cl 85 [AV.agg cs52, AV.agg cs62] h27 fun r63 h64 => arB r63 fun b65 => ifA b65 (newK h64 (.row [AS.int .i64 n48]) fun g66 h67 => elK h67 (.at g66 0) 1 1 fun ys68 => appA h67 p31 l31 z31 1 8 ys68 1 c31 fun p70 l70 c70 z70 h69 => w64 (iAdd r40 (Int.ofNat 1)) fun n71 => self28 (p29, (p70, l70, c70, z70), p32, p34, p36, (p38, l38, c38, z38), n39, n71) h69) (w64 (iAdd r40 (Int.ofNat 1)) fun n72 => self28 (p29, (p31, l31, c31, z31), p32, p34, p36, (p38, l38, c38, z38), n39, n72) h64)) ((loopX lf (fun (self75 : (AP × (AP × Nat × ACap × Nat) × AP × AP × AP × Int) → AH → Bool) (x73 : AP × (AP × Nat × ACap × Nat) × AP × AP × AP × Int) (h74 : AH) => pR x73 fun p76 r77 => pR r77 fun u78 r78 => pR u78 fun p78 r78a => pR r78a fun l78 r78b => pR r78b fun c78 z78 => pR r78 fun p79 r80 => pR r80 fun p81 r82 => pR r82 fun p83 r84 => nilK p79 fun g86 o87 => fN (Nat.add o87 2) fun o88 => rowK h74 g86 fun cs89 => ldP cs89 o88 fun p90 => fB (!isNilP p90) fun b91 => ifA b91 (fB (iLt r84 (Int.ofNat 4)) fun b92 => ifA b92 (nilK p79 fun g93 o94 => fN (Nat.add o94 2) fun o95 => getK h74 g93 fun k96 => rowK h74 g93 fun cs97 => ldP cs97 o95 fun p98 => nilK p98 fun g99 o100 => idxK r84 4 fun m101 => fN (Nat.add o100 (Nat.mul m101 3)) fun o102 => nilK p81 fun g103 o104 => rowK h74 g103 fun cs105 => ldG cs105 o104 4 fun cs106 => nilK p83 fun g108 o109 => getK h74 g108 fun k107 => nilK p83 fun g110 o111 => rowK h74 g110 fun cs112 => ldG cs112 o111 4 fun cs113 => cl 81 [AV.agg cs106, AV.s (AS.int .i64 r84)] h74 fun r114 h115 => okK (kSame ((g108, k107) :: ((g93, k96) :: [])) h115) (asG r114 fun cs116 => cl 58 [AV.s (AS.ptr p76), AV.s (AS.slice p78 l78 c78 z78), AV.s (AS.ptr (.at g99 o102)), AV.agg cs116, AV.agg cs113] h115 fun r117 h118 => asSl r117 fun p119 l119 c119 z119 => w64 (iAdd r84 (Int.ofNat 1)) fun n120 => self75 (p76, (p119, l119, c119, z119), p79, p81, p83, n120) h118)) (K (AV.s (AS.slice p78 l78 c78 z78)) h74)) (K (AV.s (AS.slice p78 l78 c78 z78)) h74)) (p29, (p31, l31, c31, z31), p32, p34, p36, (Int.ofNat 0)) h27))) (q0, (q1p, q1n, q1c, q1z), q2, (.at g1 0), (.at g3 0), (p25, l25, c25, z25), (Int.ofNat l25), (Int.ofNat 0)) h19)))
def L58 : Nat → LoopA := fun id => match id with
  | 4 => ⟨AP × (AP × Nat × ACap × Nat) × AP × AP × AP × (AP × Nat × ACap × Nat) × Int × Int, (.pair (EncA.ptr 0) (.pair (EncA.slice 1) (.pair (EncA.ptr 2) (.pair (EncA.ptr 8) (.pair (EncA.ptr 9) (.pair (EncA.slice 29) (.pair (EncA.int .i64 30) (EncA.int .i64 31))))))))⟩
  | 10 => ⟨AP × (AP × Nat × ACap × Nat) × AP × AP × AP × Int, (.pair (EncA.ptr 0) (.pair (EncA.slice 1) (.pair (EncA.ptr 2) (.pair (EncA.ptr 8) (.pair (EncA.ptr 9) (EncA.int .i64 13))))))⟩
  | _ => noA
def R58 : Nat → RegHint := fun id => match id with
  | 6 => ⟨(.op 0 (.op 1 (.op 2 (.op 3 (.op 4 (.op 5 (.op 6 (.op 7 .nil)))))))), 0, 0, 7, 0⟩
  | 12 => ⟨(.op 0 (.op 1 (.op 2 (.op 3 (.op 4 (.op 5 (.op 6 (.op 7 (.op 8 (.op 9 (.op 10 (.op 12 (.op 11 (.op 13 (.op 14 .nil))))))))))))))), 2048, 4128, 12, 0⟩
  | _ => ⟨.nil, 0, 0, 0, 0⟩
theorem E58 (lf : Nat) (cl : Cl) : PK.Eq [.ptr, .slice, .ptr, .agg, .agg] (evFn Try.prog cl L58 R58 noJ lf Try.f58) (B58 lf cl) := by intro q0 q1p q1n q1c q1z q2 q3 q4 H K; kernel_rfl
theorem O58 (lf : Nat) (w0 : World) : OkB Try.prog w0 58 (PK.run [.ptr, .slice, .ptr, .agg, .agg] (B58 lf)) := okb Try.checked.mixed (fn := Try.f58) rfl (E58 lf)
theorem M58 (lf : Nat) : MonoB (PK.run [.ptr, .slice, .ptr, .agg, .agg] (B58 lf)) := mob (E58 lf)

/-- vedette/thing.Is -/
def B67 (lf : Nat) (cl : Cl) (q0 : List AS) (H : AH) (K : AV → AH → Bool) : Bool :=
  newK H (.row q0) fun g1 h2 => rowK h2 g1 fun cs3 => ldI cs3 0 .i64 fun n4 => fB (iLe (Int.ofNat 0) n4) fun b5 => ifA b5 (rowK h2 g1 fun cs6 => ldI cs6 0 .i64 fun n7 => fB (iLe n7 (Int.ofNat 1000000)) fun b8 => ifA b8 (rowK h2 g1 fun cs9 => ldG cs9 1 2 fun cs10 => cl 54 [AV.agg cs10] h2 fun r11 h12 => arB r11 fun b13 => ifA b13 (rowK h12 g1 fun cs14 => okK (Nat.ble (11) (ln cs14)) (slcA (.at g1 3) 4 (.lit 4) 2 0 4 fun p15 l15 c15 z15 => cl 89 [AV.s (AS.slice p15 l15 c15 z15), AV.s (AS.func 90 [] [])] h12 fun r16 h17 => arB r16 fun b18 => fB (!b18) fun b19 => K (AV.s (AS.bool b19)) h17)) (K (AV.s (AS.bool false)) h12)) (K (AV.s (AS.bool false)) h2)) (K (AV.s (AS.bool false)) h2)
theorem E67 (lf : Nat) (cl : Cl) : PK.Eq [.agg] (evFn Try.prog cl noL noR noJ lf Try.f67) (B67 lf cl) := by intro q0 H K; kernel_rfl
theorem O67 (lf : Nat) (w0 : World) : OkB Try.prog w0 67 (PK.run [.agg] (B67 lf)) := okb Try.checked.mixed (fn := Try.f67) rfl (E67 lf)
theorem M67 (lf : Nat) : MonoB (PK.run [.agg] (B67 lf)) := mob (E67 lf)

/-- (*vedette/table.Table).Lay -/
def B68 (lf : Nat) (cl : Cl) (q0 : AP) (q1 : List AS) (H : AH) (K : AV → AH → Bool) : Bool :=
  newK H (.row q1) fun g1 h2 => joinX (fun (x32 : AP × AP) (h33 : AH) => pR x32 fun p35 r36 => nilK p35 fun g38 o39 => fN (Nat.add o39 0) fun o40 => rowK h33 g38 fun cs41 => ldM cs41 o40 fun r42 => nilK r36 fun g43 o44 => fN (Nat.add o44 0) fun o45 => rowK h33 g43 fun cs46 => ldI cs46 o45 .i64 fun n47 => nilK r36 fun g48 o49 => rowK h33 g48 fun cs50 => ldG cs50 o49 11 fun cs51 => asMp (AV.s (AS.map r42)) fun g55 => mapK h33 g55 fun es52 => fL (setA es52 n47 (AV.agg cs51)) fun es53 => wrK h33 g55 (some (.imap es53)) fun h54 => nilK p35 fun g56 o57 => fN (Nat.add o57 1) fun o58 => rowK h54 g56 fun cs59 => ldP cs59 o58 fun p60 => nilK r36 fun g61 o62 => fN (Nat.add o62 0) fun o63 => rowK h54 g61 fun cs64 => ldI cs64 o63 .i64 fun n65 => nilK r36 fun g66 o67 => fN (Nat.add o67 1) fun o68 => rowK h54 g66 fun cs69 => ldG cs69 o68 2 fun cs70 => cl 53 [AV.s (AS.ptr p60), AV.s (AS.int .i64 n65), AV.agg cs70] h54 fun r71 h72 => tup0 r71 (K (AV.tup []) h72)) fun J34 => nilK q0 fun g3 o4 => fN (Nat.add o4 0) fun o5 => getK h2 g3 fun k6 => rowK h2 g3 fun cs7 => ldM cs7 o5 fun r8 => getK h2 g1 fun k9 => rowK h2 g1 fun cs10 => ldI cs10 0 .i64 fun n11 => asMp (AV.s (AS.map r8)) fun g13 => getK h2 g13 fun k12 => asMp (AV.s (AS.map r8)) fun g17 => mapK h2 g17 fun es14 => lkZ es14 n11 (AV.agg [AS.int .i64 (Int.ofNat 0), AS.int .i64 (Int.ofNat 0), AS.int .i64 (Int.ofNat 0), AS.int .i64 (Int.ofNat 0), AS.str [], AS.int .i64 (Int.ofNat 0), AS.str [], AS.int .i64 (Int.ofNat 0), AS.str [], AS.int .i64 (Int.ofNat 0), AS.str []]) fun v15 b16 => asG v15 fun cs18 => newK h2 (.row [AS.int .i64 (Int.ofNat 0), AS.int .i64 (Int.ofNat 0), AS.int .i64 (Int.ofNat 0), AS.int .i64 (Int.ofNat 0), AS.str [], AS.int .i64 (Int.ofNat 0), AS.str [], AS.int .i64 (Int.ofNat 0), AS.str [], AS.int .i64 (Int.ofNat 0), AS.str []]) fun g19 h20 => stoN h20 g19 0 11 cs18 fun h21 => ifA b16 (nilK q0 fun g22 o23 => fN (Nat.add o23 1) fun o24 => rowK h21 g22 fun cs25 => ldP cs25 o24 fun p26 => rowK h21 g1 fun cs27 => ldI cs27 0 .i64 fun n28 => cl 18 [AV.s (AS.ptr p26), AV.s (AS.int .i64 n28)] h21 fun r29 h30 => arI r29 .i64 fun n31 => J34 (q0, (.at g1 0)) h30) (J34 (q0, (.at g1 0)) h21)
def R68 : Nat → RegHint := fun id => match id with
  | 1 => ⟨(.op 0 (.op 1 (.op 2 (.op 3 (.op 4 (.op 5 (.op 6 (.op 7 (.op 8 (.op 9 (.op 10 (.op 11 (.op 12 .nil))))))))))))), 1024, 104, 10, 0⟩
  | 3 => ⟨(.op 0 (.op 1 (.op 2 (.op 3 (.op 4 (.op 5 (.op 6 .nil))))))), 0, 0, 6, 0⟩
  | 4 => ⟨(.op 0 (.op 1 (.op 2 (.op 3 (.op 4 (.op 5 (.op 6 (.op 7 .nil)))))))), 0, 0, 7, 0⟩
  | 5 => ⟨(.op 0 (.op 1 (.op 2 (.op 3 (.op 4 (.op 5 (.op 6 (.op 7 (.op 8 .nil))))))))), 0, 0, 8, 0⟩
  | _ => ⟨.nil, 0, 0, 0, 0⟩
def J68 : Option Nat → Option LoopA := fun id => match id with
  | some 4 => some ⟨AP × AP, (.pair (EncA.ptr 0) (EncA.ptr 3))⟩
  | _ => none
theorem E68 (lf : Nat) (cl : Cl) : PK.Eq [.ptr, .agg] (evFn Try.prog cl noL R68 J68 lf Try.f68) (B68 lf cl) := by intro q0 q1 H K; kernel_rfl
theorem O68 (lf : Nat) (w0 : World) : OkB Try.prog w0 68 (PK.run [.ptr, .agg] (B68 lf)) := okb Try.checked.mixed (fn := Try.f68) rfl (E68 lf)
theorem M68 (lf : Nat) : MonoB (PK.run [.ptr, .agg] (B68 lf)) := mob (E68 lf)

/-- (*vedette/table.Table).of -/
def B72 (lf : Nat) (cl : Cl) (q0 : AP) (q1p : AP) (q1n : Nat) (q1c : ACap) (q1z : Nat) (H : AH) (K : AV → AH → Bool) : Bool :=
  (loopX lf (fun (self3 : (AP × (AP × Nat × ACap × Nat) × (AP × Nat × ACap × Nat) × Int × Int) → AH → Bool) (x1 : AP × (AP × Nat × ACap × Nat) × (AP × Nat × ACap × Nat) × Int × Int) (h2 : AH) => pR x1 fun p4 r5 => pR r5 fun u6 r6 => pR u6 fun p6 r6a => pR r6a fun l6 r6b => pR r6b fun c6 z6 => pR r6 fun u7 r7 => pR u7 fun p7 r7a => pR r7a fun l7 r7b => pR r7b fun c7 z7 => pR r7 fun n8 r9 => fB (iLt r9 n8) fun b11 => ifA b11 (nilK p7 fun g12 o13 => idxK r9 l7 fun m14 => fN (Nat.add o13 (Nat.mul m14 1)) fun o15 => rowK h2 g12 fun cs16 => ldI cs16 o15 .i64 fun n17 => nilK p4 fun g18 o19 => fN (Nat.add o19 0) fun o20 => rowK h2 g18 fun cs21 => ldM cs21 o20 fun r22 => asMp (AV.s (AS.map r22)) fun g26 => mapK h2 g26 fun es23 => lkZ es23 n17 (AV.agg [AS.int .i64 (Int.ofNat 0), AS.int .i64 (Int.ofNat 0), AS.int .i64 (Int.ofNat 0), AS.int .i64 (Int.ofNat 0), AS.str [], AS.int .i64 (Int.ofNat 0), AS.str [], AS.int .i64 (Int.ofNat 0), AS.str [], AS.int .i64 (Int.ofNat 0), AS.str []]) fun v24 b25 => asG v24 fun cs27 => okK (Nat.beq (ln cs27) 11) (fL (ap (α := AS) cs27 []) fun cs28 => okK (Nat.beq (ln cs28) (1 * 11)) (newK h2 (.row cs28) fun g29 h30 => elK h30 (.at g29 0) 1 11 fun ys31 => appA h30 p6 l6 z6 11 120 ys31 1 c6 fun p33 l33 c33 z33 h32 => w64 (iAdd r9 (Int.ofNat 1)) fun n34 => self3 (p4, (p33, l33, c33, z33), (p7, l7, c7, z7), n8, n34) h32))) (K (AV.s (AS.slice p6 l6 c6 z6)) h2)) (q0, (AP.nil, 0, (.lit 0), 1), (q1p, q1n, q1c, q1z), (Int.ofNat q1n), (Int.ofNat 0)) H)
def L72 : Nat → LoopA := fun id => match id with
  | 3 => ⟨AP × (AP × Nat × ACap × Nat) × (AP × Nat × ACap × Nat) × Int × Int, (.pair (EncA.ptr 0) (.pair (EncA.slice 5) (.pair (EncA.slice 8) (.pair (EncA.int .i64 9) (EncA.int .i64 10)))))⟩
  | _ => noA
theorem E72 (lf : Nat) (cl : Cl) : PK.Eq [.ptr, .slice] (evFn Try.prog cl L72 noR noJ lf Try.f72) (B72 lf cl) := by intro q0 q1p q1n q1c q1z H K; kernel_rfl
theorem O72 (lf : Nat) (w0 : World) : OkB Try.prog w0 72 (PK.run [.ptr, .slice] (B72 lf)) := okb Try.checked.mixed (fn := Try.f72) rfl (E72 lf)
theorem M72 (lf : Nat) : MonoB (PK.run [.ptr, .slice] (B72 lf)) := mob (E72 lf)

/-- vedette/cells.Rect -/
def B74 (lf : Nat) (cl : Cl) (q0 : Int) (H : AH) (K : AV → AH → Bool) : Bool :=
  newK H (.row [AS.int .i64 (Int.ofNat 0), AS.int .i64 (Int.ofNat 0), AS.int .i64 (Int.ofNat 0), AS.int .i64 (Int.ofNat 0)]) fun g1 h2 => cl 95 [AV.s (AS.int .i64 q0)] h2 fun r3 h4 => arB r3 fun b5 => fB (!b5) fun b6 => ifA b6 (stoN h4 g1 0 4 [AS.int .i64 (Int.ofNat 0), AS.int .i64 (Int.ofNat 0), AS.int .i64 (Int.ofNat 0), AS.int .i64 (Int.ofNat 0)] fun h7 => rowK h7 g1 fun cs8 => ldG cs8 0 4 fun cs9 => K (AV.tup [AV.agg cs9, AV.s (AS.bool false)]) h7) (cl 96 [AV.s (AS.int .i64 q0)] h4 fun r10 h11 => tup2 r10 fun x12 x13 => arI x12 .i64 fun n14 => arI x13 .i64 fun n15 => w64 (iMul n14 (Int.ofNat 16)) fun n16 => w64 (iMul n15 (Int.ofNat 16)) fun n17 => w64 (iAdd n14 (Int.ofNat 1)) fun n18 => w64 (iMul n18 (Int.ofNat 16)) fun n19 => w64 (iAdd n15 (Int.ofNat 1)) fun n20 => w64 (iMul n20 (Int.ofNat 16)) fun n21 => stoN h11 g1 0 4 [AS.int .i64 n16, AS.int .i64 n17, AS.int .i64 n19, AS.int .i64 n21] fun h22 => rowK h22 g1 fun cs23 => ldG cs23 0 4 fun cs24 => K (AV.tup [AV.agg cs24, AV.s (AS.bool true)]) h22)
theorem E74 (lf : Nat) (cl : Cl) : PK.Eq [.int .i64] (evFn Try.prog cl noL noR noJ lf Try.f74) (B74 lf cl) := by intro q0 H K; kernel_rfl
theorem O74 (lf : Nat) (w0 : World) : OkB Try.prog w0 74 (PK.run [.int .i64] (B74 lf)) := okb Try.checked.mixed (fn := Try.f74) rfl (E74 lf)
theorem M74 (lf : Nat) : MonoB (PK.run [.int .i64] (B74 lf)) := mob (E74 lf)

/-- (*vedette/quad.Tree).add -/
def B77 (lf : Nat) (cl : Cl) (q0 : AP) (q1 : AP) (q2 : List AS) (q3 : Int) (q4 : Int) (H : AH) (K : AV → AH → Bool) : Bool :=
  newK H (.row q2) fun g1 h2 => (loopX lf (fun (self5 : (AP × AP × Int × Int × AP) → AH → Bool) (x3 : AP × AP × Int × Int × AP) (h4 : AH) => pR x3 fun p6 r7 => pR r7 fun p8 r9 => pR r9 fun n10 r11 => pR r11 fun n12 r13 => nilK p8 fun g15 o16 => fN (Nat.add o16 0) fun o17 => rowK h4 g15 fun cs18 => ldI cs18 o17 .i64 fun n19 => w64 (iAdd n19 (Int.ofNat 1)) fun n20 => nilK p8 fun g21 o22 => fN (Nat.add o22 0) fun o23 => sto1 h4 g21 o23 (AS.int .i64 n20) fun h24 => nilK p8 fun g25 o26 => fN (Nat.add o26 2) fun o27 => rowK h24 g25 fun cs28 => ldP cs28 o27 fun p29 => fB (!isNilP p29) fun b30 => ifA b30 (nilK r13 fun g31 o32 => rowK h24 g31 fun cs33 => ldG cs33 o32 4 fun cs34 => nilK p6 fun g35 o36 => fN (Nat.add o36 0) fun o37 => rowK h24 g35 fun cs38 => ldM cs38 o37 fun r39 => asMp (AV.s (AS.map r39)) fun g43 => mapK h24 g43 fun es40 => lkZ es40 n12 (AV.agg [AS.int .i64 (Int.ofNat 0), AS.int .i64 (Int.ofNat 0)]) fun v41 b42 => asG v41 fun cs44 => cl 80 [AV.agg cs34, AV.agg cs44] h24 fun r45 h46 => arI r45 .i64 fun n47 => nilK p8 fun g48 o49 => fN (Nat.add o49 2) fun o50 => getK h46 g48 fun k51 => rowK h46 g48 fun cs52 => ldP cs52 o50 fun p53 => nilK p53 fun g54 o55 => idxK n47 4 fun m56 => fN (Nat.add o55 (Nat.mul m56 3)) fun o57 => nilK r13 fun g58 o59 => rowK h46 g58 fun cs60 => ldG cs60 o59 4 fun cs61 => w64 (iAdd n10 (Int.ofNat 1)) fun n62 => cl 81 [AV.agg cs61, AV.s (AS.int .i64 n47)] h46 fun r63 h64 => okK (kSame ((g48, k51) :: []) h64) (asG r63 fun cs65 => nilK r13 fun g66 o67 => stoN h64 g66 o67 4 cs65 fun h68 => self5 (p6, (.at g54 o57), n62, n12, r13) h68)) (joinX (fun (x76 : AP × AP × Int × Int × AP × Bool) (h77 : AH) => pR x76 fun p79 r80 => pR r80 fun p81 r82 => pR r82 fun n83 r84 => pR r84 fun n85 r86 => pR r86 fun p87 r88 => ifA r88 (nilK p81 fun g90 o91 => fN (Nat.add o91 1) fun o92 => rowK h77 g90 fun cs93 => ldSl cs93 o92 fun p94 l94 c94 z94 => newK h77 (.row [AS.int .i64 n85]) fun g95 h96 => elK h96 (.at g95 0) 1 1 fun ys97 => appA h96 p94 l94 z94 1 8 ys97 1 c94 fun p99 l99 c99 z99 h98 => nilK p81 fun g100 o101 => fN (Nat.add o101 1) fun o102 => sto1 h98 g100 o102 (AS.slice p99 l99 c99 z99) fun h103 => K (AV.tup []) h103) (nilK p81 fun g104 o105 => fN (Nat.add o105 1) fun o106 => rowK h77 g104 fun cs107 => ldSl cs107 o106 fun p108 l108 c108 z108 => newK h77 (.row [AS.int .i64 n85]) fun g109 h110 => elK h110 (.at g109 0) 1 1 fun ys111 => appA h110 p108 l108 z108 1 8 ys111 1 c108 fun p113 l113 c113 z113 h112 => newK h112 (.row [AS.int .i64 (Int.ofNat 0), AS.slice AP.nil 0 (.lit 0) 1, AS.ptr AP.nil, AS.int .i64 (Int.ofNat 0), AS.slice AP.nil 0 (.lit 0) 1, AS.ptr AP.nil, AS.int .i64 (Int.ofNat 0), AS.slice AP.nil 0 (.lit 0) 1, AS.ptr AP.nil, AS.int .i64 (Int.ofNat 0), AS.slice AP.nil 0 (.lit 0) 1, AS.ptr AP.nil]) fun g114 h115 => nilK p81 fun g116 o117 => fN (Nat.add o117 1) fun o118 => sto1 h115 g116 o118 (AS.slice AP.nil 0 (.lit 0) 1) fun h119 => nilK p81 fun g120 o121 => fN (Nat.add o121 2) fun o122 => sto1 h119 g120 o122 (AS.ptr (.at g114 0)) fun h123 => (loopX lf (fun (self126 : (AP × AP × Int × AP × (AP × Nat × ACap × Nat) × Int × Int) → AH → Bool) (x124 : AP × AP × Int × AP × (AP × Nat × ACap × Nat) × Int × Int) (h125 : AH) => pR x124 fun p127 r128 => pR r128 fun p129 r130 => pR r130 fun n131 r132 => pR r132 fun p133 r134 => pR r134 fun u135 r135 => pR u135 fun p135 r135a => pR r135a fun l135 r135b => pR r135b fun c135 z135 => pR r135 fun n136 r137 => fB (iLt r137 n136) fun b139 => ifA b139 (nilK p135 fun g140 o141 => idxK r137 l135 fun m142 => fN (Nat.add o141 (Nat.mul m142 1)) fun o143 => rowK h125 g140 fun cs144 => ldI cs144 o143 .i64 fun n145 => nilK p133 fun g146 o147 => rowK h125 g146 fun cs148 => ldG cs148 o147 4 fun cs149 => nilK p127 fun g150 o151 => fN (Nat.add o151 0) fun o152 => rowK h125 g150 fun cs153 => ldM cs153 o152 fun r154 => asMp (AV.s (AS.map r154)) fun g158 => mapK h125 g158 fun es155 => lkZ es155 n145 (AV.agg [AS.int .i64 (Int.ofNat 0), AS.int .i64 (Int.ofNat 0)]) fun v156 b157 => asG v156 fun cs159 => cl 80 [AV.agg cs149, AV.agg cs159] h125 fun r160 h161 => arI r160 .i64 fun n162 => nilK p129 fun g163 o164 => fN (Nat.add o164 2) fun o165 => getK h161 g163 fun k166 => rowK h161 g163 fun cs167 => ldP cs167 o165 fun p168 => nilK p168 fun g169 o170 => idxK n162 4 fun m171 => fN (Nat.add o170 (Nat.mul m171 3)) fun o172 => nilK p133 fun g173 o174 => rowK h161 g173 fun cs175 => ldG cs175 o174 4 fun cs176 => w64 (iAdd n131 (Int.ofNat 1)) fun n177 => cl 81 [AV.agg cs176, AV.s (AS.int .i64 n162)] h161 fun r178 h179 => okK (kSame ((g163, k166) :: []) h179) (asG r178 fun cs180 => cl 77 [AV.s (AS.ptr p127), AV.s (AS.ptr (.at g169 o172)), AV.agg cs180, AV.s (AS.int .i64 n177), AV.s (AS.int .i64 n145)] h179 fun r181 h182 => tup0 r181 (w64 (iAdd r137 (Int.ofNat 1)) fun n183 => self126 (p127, p129, n131, p133, (p135, l135, c135, z135), n136, n183) h182))) (K (AV.tup []) h125)) (p79, p81, n83, p87, (p113, l113, c113, z113), (Int.ofNat l113), (Int.ofNat 0)) h123))) fun J78 => nilK p8 fun g69 o70 => fN (Nat.add o70 0) fun o71 => rowK h24 g69 fun cs72 => ldI cs72 o71 .i64 fun n73 => fB (iLe n73 (Int.ofNat 4)) fun b74 => ifA b74 (J78 (p6, p8, n10, n12, r13, true) h24) (fB (iEq n10 (Int.ofNat 4)) fun b75 => J78 (p6, p8, n10, n12, r13, b75) h24))) (q0, q1, q3, q4, (.at g1 0)) h2)
def L77 : Nat → LoopA := fun id => match id with
  | 1 => ⟨AP × AP × Int × Int × AP, (.pair (EncA.ptr 0) (.pair (EncA.ptr 1) (.pair (EncA.int .i64 3) (.pair (EncA.int .i64 4) (EncA.ptr 7)))))⟩
  | 10 => ⟨AP × AP × Int × AP × (AP × Nat × ACap × Nat) × Int × Int, (.pair (EncA.ptr 0) (.pair (EncA.ptr 1) (.pair (EncA.int .i64 3) (.pair (EncA.ptr 7) (.pair (EncA.slice 83) (.pair (EncA.int .i64 84) (EncA.int .i64 85)))))))⟩
  | _ => noA
def R77 : Nat → RegHint := fun id => match id with
  | 3 => ⟨(.op 0 (.op 1 (.op 2 (.op 3 (.op 4 (.op 5 (.op 6 (.op 7 (.op 8 .nil))))))))), 0, 0, 7, 0⟩
  | 4 => ⟨(.op 0 (.op 1 (.op 2 (.op 3 (.op 4 (.op 5 (.op 6 (.op 7 (.op 8 (.op 10 (.op 11 (.op 9 (.op 12 (.op 13 (.op 14 .nil))))))))))))))), 512, 8, 11, 0⟩
  | 12 => ⟨(.op 0 (.op 1 (.op 2 (.op 3 (.op 4 (.op 5 (.op 6 (.op 7 (.op 8 .nil))))))))), 0, 0, 7, 0⟩
  | 13 => ⟨(.op 0 (.op 1 (.op 2 (.op 3 (.op 4 (.op 5 (.op 6 (.op 7 (.op 8 (.op 9 (.op 11 (.op 12 (.op 13 (.op 10 (.op 14 .nil))))))))))))))), 1024, 16, 13, 0⟩
  | _ => ⟨.nil, 0, 0, 0, 0⟩
def J77 : Option Nat → Option LoopA := fun id => match id with
  | some 6 => some ⟨AP × AP × Int × Int × AP × Bool, (.pair (EncA.ptr 0) (.pair (EncA.ptr 1) (.pair (EncA.int .i64 3) (.pair (EncA.int .i64 4) (.pair (EncA.ptr 7) (EncA.bool 48))))))⟩
  | _ => none
theorem E77 (lf : Nat) (cl : Cl) : PK.Eq [.ptr, .ptr, .agg, .int .i64, .int .i64] (evFn Try.prog cl L77 R77 J77 lf Try.f77) (B77 lf cl) := by intro q0 q1 q2 q3 q4 H K; kernel_rfl
theorem O77 (lf : Nat) (w0 : World) : OkB Try.prog w0 77 (PK.run [.ptr, .ptr, .agg, .int .i64, .int .i64] (B77 lf)) := okb Try.checked.mixed (fn := Try.f77) rfl (E77 lf)
theorem M77 (lf : Nat) : MonoB (PK.run [.ptr, .ptr, .agg, .int .i64, .int .i64] (B77 lf)) := mob (E77 lf)

/-- slices.DeleteFunc[[]int,int] -/
def B78 (lf : Nat) (cl : Cl) (q0p : AP) (q0n : Nat) (q0c : ACap) (q0z : Nat) (q1 : AV) (H : AH) (K : AV → AH → Bool) : Bool :=
  cl 98 [AV.s (AS.slice q0p q0n q0c q0z), q1] H fun r1 h2 => arI r1 .i64 fun n3 => fB (iEq n3 (Int.negSucc 0)) fun b4 => ifA b4 (K (AV.s (AS.slice q0p q0n q0c q0z)) h2) (w64 (iAdd n3 (Int.ofNat 1)) fun n5 => (loopX lf (fun (self8 : ((AP × Nat × ACap × Nat) × AV × Int × Int) → AH → Bool) (x6 : (AP × Nat × ACap × Nat) × AV × Int × Int) (h7 : AH) => pR x6 fun u9 r9 => pR u9 fun p9 r9a => pR r9a fun l9 r9b => pR r9b fun c9 z9 => pR r9 fun v10 r11 => pR r11 fun n12 r13 => fB (iLt r13 (Int.ofNat l9)) fun b15 => ifA b15 (nilK p9 fun g16 o17 => idxK r13 l9 fun m18 => fN (Nat.add o17 (Nat.mul m18 1)) fun o19 => rowK h7 g16 fun cs20 => ldI cs20 o19 .i64 fun n21 => callV Try.prog cl none (v10) [AV.s (AS.int .i64 n21)] h7 fun r22 h23 => asB r22 fun b24 => fB (!b24) fun b25 => ifA b25 (nilK p9 fun g26 o27 => idxK n12 l9 fun m28 => fN (Nat.add o27 (Nat.mul m28 1)) fun o29 => sto1 h23 g26 o29 (AS.int .i64 n21) fun h30 => w64 (iAdd n12 (Int.ofNat 1)) fun n31 => w64 (iAdd r13 (Int.ofNat 1)) fun n32 => self8 ((p9, l9, c9, z9), v10, n31, n32) h30) (w64 (iAdd r13 (Int.ofNat 1)) fun n33 => self8 ((p9, l9, c9, z9), v10, n12, n33) h23)) (okK (isNilP p9 || Nat.beq z9 1) (natK n12 fun m34 => slcA p9 l9 c9 1 m34 l9 fun p35 l35 c35 z35 => clrA none h7 p35 l35 [AS.int .i64 (Int.ofNat 0)] fun h36 => okK (isNilP p9 || Nat.beq z9 1) (natK n12 fun m37 => slcA p9 l9 c9 1 0 m37 fun p38 l38 c38 z38 => K (AV.s (AS.slice p38 l38 c38 z38)) h36)))) ((q0p, q0n, q0c, q0z), q1, n3, n5) h2))
def L78 : Nat → LoopA := fun id => match id with
  | 5 => ⟨(AP × Nat × ACap × Nat) × AV × Int × Int, (.pair (EncA.slice 0) (.pair (EncA.val 1) (.pair (EncA.int .i64 5) (EncA.int .i64 6))))⟩
  | _ => noA
theorem E78 (lf : Nat) (cl : Cl) : PK.Eq [.slice, .val] (evFn Try.prog cl L78 noR noJ lf Try.f78) (B78 lf cl) := by intro q0p q0n q0c q0z q1 H K; kernel_rfl
theorem O78 (lf : Nat) (w0 : World) : OkB Try.prog w0 78 (PK.run [.slice, .val] (B78 lf)) := okb Try.checked.mixed (fn := Try.f78) rfl (E78 lf)
theorem M78 (lf : Nat) : MonoB (PK.run [.slice, .val] (B78 lf)) := mob (E78 lf)

/-- (*vedette/quad.Tree).remove$1 -/
def B79 (lf : Nat) (cl : Cl) (q0 : Int) (q1 : AP) (H : AH) (K : AV → AH → Bool) : Bool :=
  nilK q1 fun g1 o2 => rowK H g1 fun cs3 => ldI cs3 o2 .i64 fun n4 => fB (iEq q0 n4) fun b5 => K (AV.s (AS.bool b5)) H
theorem E79 (lf : Nat) (cl : Cl) : PK.Eq [.int .i64, .ptr] (evFn Try.prog cl noL noR noJ lf Try.f79) (B79 lf cl) := by intro q0 q1 H K; kernel_rfl
theorem O79 (lf : Nat) (w0 : World) : OkB Try.prog w0 79 (PK.run [.int .i64, .ptr] (B79 lf)) := okb Try.checked.mixed (fn := Try.f79) rfl (E79 lf)
theorem M79 (lf : Nat) : MonoB (PK.run [.int .i64, .ptr] (B79 lf)) := mob (E79 lf)

/-- vedette/quad.which -/
def B80 (lf : Nat) (cl : Cl) (q0 : List AS) (q1 : List AS) (H : AH) (K : AV → AH → Bool) : Bool :=
  newK H (.row q0) fun g1 h2 => newK h2 (.row q1) fun g3 h4 => joinX (fun (x15 : AP × AP × Int) (h16 : AH) => pR x15 fun p18 r19 => pR r19 fun p20 r21 => nilK p20 fun g23 o24 => fN (Nat.add o24 1) fun o25 => rowK h16 g23 fun cs26 => ldI cs26 o25 .i64 fun n27 => nilK p18 fun g28 o29 => fN (Nat.add o29 1) fun o30 => rowK h16 g28 fun cs31 => ldI cs31 o30 .i64 fun n32 => nilK p18 fun g33 o34 => fN (Nat.add o34 3) fun o35 => rowK h16 g33 fun cs36 => ldI cs36 o35 .i64 fun n37 => w64 (iAdd n32 n37) fun n38 => w64 (Int.tdiv n38 (Int.ofNat 2)) fun n39 => fB (iLe n39 n27) fun b40 => ifA b40 (w64 (iAdd r21 (Int.ofNat 2)) fun n41 => K (AV.s (AS.int .i64 n41)) h16) (K (AV.s (AS.int .i64 r21)) h16)) fun J17 => rowK h4 g3 fun cs5 => ldI cs5 0 .i64 fun n6 => rowK h4 g1 fun cs7 => ldI cs7 0 .i64 fun n8 => rowK h4 g1 fun cs9 => ldI cs9 2 .i64 fun n10 => w64 (iAdd n8 n10) fun n11 => w64 (Int.tdiv n11 (Int.ofNat 2)) fun n12 => fB (iLe n12 n6) fun b13 => ifA b13 (w64 (iAdd (Int.ofNat 0) (Int.ofNat 1)) fun n14 => J17 ((.at g1 0), (.at g3 0), n14) h4) (J17 ((.at g1 0), (.at g3 0), (Int.ofNat 0)) h4)
def J80 : Option Nat → Option LoopA := fun id => match id with
  | some 4 => some ⟨AP × AP × Int, (.pair (EncA.ptr 2) (.pair (EncA.ptr 3) (EncA.int .i64 5)))⟩
  | _ => none
theorem E80 (lf : Nat) (cl : Cl) : PK.Eq [.agg, .agg] (evFn Try.prog cl noL noR J80 lf Try.f80) (B80 lf cl) := by intro q0 q1 H K; kernel_rfl
theorem O80 (lf : Nat) (w0 : World) : OkB Try.prog w0 80 (PK.run [.agg, .agg] (B80 lf)) := okb Try.checked.mixed (fn := Try.f80) rfl (E80 lf)
theorem M80 (lf : Nat) : MonoB (PK.run [.agg, .agg] (B80 lf)) := mob (E80 lf)

/-- vedette/quad.quarter -/
def B81 (lf : Nat) (cl : Cl) (q0 : List AS) (q1 : Int) (H : AH) (K : AV → AH → Bool) : Bool :=
  newK H (.row q0) fun g1 h2 => newK h2 (.row [AS.int .i64 (Int.ofNat 0), AS.int .i64 (Int.ofNat 0), AS.int .i64 (Int.ofNat 0), AS.int .i64 (Int.ofNat 0)]) fun g3 h4 => rowK h4 g1 fun cs5 => ldI cs5 2 .i64 fun n6 => rowK h4 g1 fun cs7 => ldI cs7 0 .i64 fun n8 => w64 (iSub n6 n8) fun n9 => w64 (Int.tdiv n9 (Int.ofNat 2)) fun n10 => rowK h4 g1 fun cs11 => ldI cs11 0 .i64 fun n12 => fI (Int.tmod q1 (Int.ofNat 2)) fun n13 => w64 (iMul n10 n13) fun n14 => w64 (iAdd n12 n14) fun n15 => rowK h4 g1 fun cs16 => ldI cs16 1 .i64 fun n17 => w64 (Int.tdiv q1 (Int.ofNat 2)) fun n18 => w64 (iMul n10 n18) fun n19 => w64 (iAdd n17 n19) fun n20 => w64 (iAdd n15 n10) fun n21 => w64 (iAdd n20 n10) fun n22 => stoN h4 g3 0 4 [AS.int .i64 n15, AS.int .i64 n20, AS.int .i64 n21, AS.int .i64 n22] fun h23 => rowK h23 g3 fun cs24 => ldG cs24 0 4 fun cs25 => K (AV.agg cs25) h23
def R81 : Nat → RegHint := fun id => match id with
  | 2 => ⟨(.op 0 (.op 1 (.op 2 (.op 3 (.op 4 (.op 5 (.op 6 (.op 7 (.op 8 (.op 9 (.op 10 (.op 11 (.op 12 (.op 13 (.op 14 (.op 15 .nil)))))))))))))))), 0, 0, 16, 0⟩
  | _ => ⟨.nil, 0, 0, 0, 0⟩
theorem E81 (lf : Nat) (cl : Cl) : PK.Eq [.agg, .int .i64] (evFn Try.prog cl noL R81 noJ lf Try.f81) (B81 lf cl) := by intro q0 q1 H K; kernel_rfl
theorem O81 (lf : Nat) (w0 : World) : OkB Try.prog w0 81 (PK.run [.agg, .int .i64] (B81 lf)) := okb Try.checked.mixed (fn := Try.f81) rfl (E81 lf)
theorem M81 (lf : Nat) : MonoB (PK.run [.agg, .int .i64] (B81 lf)) := mob (E81 lf)

/-- (*vedette/quad.square).all -/
def B82 (lf : Nat) (cl : Cl) (q0 : AP) (H : AH) (K : AV → AH → Bool) : Bool :=
  nilK q0 fun g1 o2 => fN (Nat.add o2 1) fun o3 => rowK H g1 fun cs4 => ldSl cs4 o3 fun p5 l5 c5 z5 => cl 99 [AV.s (AS.slice p5 l5 c5 z5)] H fun r6 h7 => asSl r6 fun p8 l8 c8 z8 => (loopX lf (fun (self11 : (AP × (AP × Nat × ACap × Nat) × Int) → AH → Bool) (x9 : AP × (AP × Nat × ACap × Nat) × Int) (h10 : AH) => pR x9 fun p12 r13 => pR r13 fun u14 r14 => pR u14 fun p14 r14a => pR r14a fun l14 r14b => pR r14b fun c14 z14 => nilK p12 fun g16 o17 => fN (Nat.add o17 2) fun o18 => rowK h10 g16 fun cs19 => ldP cs19 o18 fun p20 => fB (!isNilP p20) fun b21 => ifA b21 (fB (iLt r14 (Int.ofNat 4)) fun b22 => ifA b22 (nilK p12 fun g23 o24 => fN (Nat.add o24 2) fun o25 => rowK h10 g23 fun cs26 => ldP cs26 o25 fun p27 => nilK p27 fun g28 o29 => idxK r14 4 fun m30 => fN (Nat.add o29 (Nat.mul m30 3)) fun o31 => cl 82 [AV.s (AS.ptr (.at g28 o31))] h10 fun r32 h33 => asSl r32 fun p34 l34 c34 z34 => elK h33 p34 l34 1 fun ys35 => appA h33 p14 l14 z14 1 8 ys35 l34 c14 fun p37 l37 c37 z37 h36 => w64 (iAdd r14 (Int.ofNat 1)) fun n38 => self11 (p12, (p37, l37, c37, z37), n38) h36) (K (AV.s (AS.slice p14 l14 c14 z14)) h10)) (K (AV.s (AS.slice p14 l14 c14 z14)) h10)) (q0, (p8, l8, c8, z8), (Int.ofNat 0)) h7)
def L82 : Nat → LoopA := fun id => match id with
  | 3 => ⟨AP × (AP × Nat × ACap × Nat) × Int, (.pair (EncA.ptr 0) (.pair (EncA.slice 3) (EncA.int .i64 4)))⟩
  | _ => noA
theorem E82 (lf : Nat) (cl : Cl) : PK.Eq [.ptr] (evFn Try.prog cl L82 noR noJ lf Try.f82) (B82 lf cl) := by intro q0 H K; kernel_rfl
theorem O82 (lf : Nat) (w0 : World) : OkB Try.prog w0 82 (PK.run [.ptr] (B82 lf)) := okb Try.checked.mixed (fn := Try.f82) rfl (E82 lf)
theorem M82 (lf : Nat) : MonoB (PK.run [.ptr] (B82 lf)) := mob (E82 lf)

/-- vedette/geom.Empty -/
def B83 (lf : Nat) (cl : Cl) (q0 : List AS) (H : AH) (K : AV → AH → Bool) : Bool :=
  newK H (.row q0) fun g1 h2 => rowK h2 g1 fun cs3 => ldI cs3 0 .i64 fun n4 => rowK h2 g1 fun cs5 => ldI cs5 2 .i64 fun n6 => fB (iLe n6 n4) fun b7 => ifA b7 (K (AV.s (AS.bool true)) h2) (rowK h2 g1 fun cs8 => ldI cs8 1 .i64 fun n9 => rowK h2 g1 fun cs10 => ldI cs10 3 .i64 fun n11 => fB (iLe n11 n9) fun b12 => K (AV.s (AS.bool b12)) h2)
theorem E83 (lf : Nat) (cl : Cl) : PK.Eq [.agg] (evFn Try.prog cl noL noR noJ lf Try.f83) (B83 lf cl) := by intro q0 H K; kernel_rfl
theorem O83 (lf : Nat) (w0 : World) : OkB Try.prog w0 83 (PK.run [.agg] (B83 lf)) := okb Try.checked.mixed (fn := Try.f83) rfl (E83 lf)
theorem M83 (lf : Nat) : MonoB (PK.run [.agg] (B83 lf)) := mob (E83 lf)

/-- vedette/geom.Meet -/
def B84 (lf : Nat) (cl : Cl) (q0 : List AS) (q1 : List AS) (H : AH) (K : AV → AH → Bool) : Bool :=
  newK H (.row q0) fun g1 h2 => newK h2 (.row q1) fun g3 h4 => newK h4 (.row [AS.int .i64 (Int.ofNat 0), AS.int .i64 (Int.ofNat 0), AS.int .i64 (Int.ofNat 0), AS.int .i64 (Int.ofNat 0)]) fun g5 h6 => rowK h6 g1 fun cs7 => ldI cs7 0 .i64 fun n8 => rowK h6 g3 fun cs9 => ldI cs9 0 .i64 fun n10 => fI (mxA n8 n10) fun n11 => rowK h6 g1 fun cs12 => ldI cs12 1 .i64 fun n13 => rowK h6 g3 fun cs14 => ldI cs14 1 .i64 fun n15 => fI (mxA n13 n15) fun n16 => rowK h6 g1 fun cs17 => ldI cs17 2 .i64 fun n18 => rowK h6 g3 fun cs19 => ldI cs19 2 .i64 fun n20 => fI (mnA n18 n20) fun n21 => rowK h6 g1 fun cs22 => ldI cs22 3 .i64 fun n23 => rowK h6 g3 fun cs24 => ldI cs24 3 .i64 fun n25 => fI (mnA n23 n25) fun n26 => cl 100 [AV.agg [AS.int .i64 n11, AS.int .i64 n16, AS.int .i64 n21, AS.int .i64 n26]] h6 fun r27 h28 => asG r27 fun cs29 => stoN h28 g5 0 4 cs29 fun h30 => rowK h30 g5 fun cs31 => ldG cs31 0 4 fun cs32 => K (AV.agg cs32) h30
theorem E84 (lf : Nat) (cl : Cl) : PK.Eq [.agg, .agg] (evFn Try.prog cl noL noR noJ lf Try.f84) (B84 lf cl) := by intro q0 q1 H K; kernel_rfl
theorem O84 (lf : Nat) (w0 : World) : OkB Try.prog w0 84 (PK.run [.agg, .agg] (B84 lf)) := okb Try.checked.mixed (fn := Try.f84) rfl (E84 lf)
theorem M84 (lf : Nat) : MonoB (PK.run [.agg, .agg] (B84 lf)) := mob (E84 lf)

/-- vedette/geom.In -/
def B85 (lf : Nat) (cl : Cl) (q0 : List AS) (q1 : List AS) (H : AH) (K : AV → AH → Bool) : Bool :=
  newK H (.row q0) fun g1 h2 => newK h2 (.row q1) fun g3 h4 => rowK h4 g3 fun cs5 => ldI cs5 0 .i64 fun n6 => rowK h4 g1 fun cs7 => ldI cs7 0 .i64 fun n8 => fB (iLe n8 n6) fun b9 => ifA b9 (rowK h4 g3 fun cs10 => ldI cs10 0 .i64 fun n11 => rowK h4 g1 fun cs12 => ldI cs12 2 .i64 fun n13 => fB (iLt n11 n13) fun b14 => ifA b14 (rowK h4 g3 fun cs15 => ldI cs15 1 .i64 fun n16 => rowK h4 g1 fun cs17 => ldI cs17 1 .i64 fun n18 => fB (iLe n18 n16) fun b19 => ifA b19 (rowK h4 g3 fun cs20 => ldI cs20 1 .i64 fun n21 => rowK h4 g1 fun cs22 => ldI cs22 3 .i64 fun n23 => fB (iLt n21 n23) fun b24 => K (AV.s (AS.bool b24)) h4) (K (AV.s (AS.bool false)) h4)) (K (AV.s (AS.bool false)) h4)) (K (AV.s (AS.bool false)) h4)
theorem E85 (lf : Nat) (cl : Cl) : PK.Eq [.agg, .agg] (evFn Try.prog cl noL noR noJ lf Try.f85) (B85 lf cl) := by intro q0 q1 H K; kernel_rfl
theorem O85 (lf : Nat) (w0 : World) : OkB Try.prog w0 85 (PK.run [.agg, .agg] (B85 lf)) := okb Try.checked.mixed (fn := Try.f85) rfl (E85 lf)
theorem M85 (lf : Nat) : MonoB (PK.run [.agg, .agg] (B85 lf)) := mob (E85 lf)

/-- slices.ContainsFunc[[]vedette/api.Field,vedette/api.Field] -/
def B89 (lf : Nat) (cl : Cl) (q0p : AP) (q0n : Nat) (q0c : ACap) (q0z : Nat) (q1 : AV) (H : AH) (K : AV → AH → Bool) : Bool :=
  cl 112 [AV.s (AS.slice q0p q0n q0c q0z), q1] H fun r1 h2 => arI r1 .i64 fun n3 => fB (iLe (Int.ofNat 0) n3) fun b4 => K (AV.s (AS.bool b4)) h2
theorem E89 (lf : Nat) (cl : Cl) : PK.Eq [.slice, .val] (evFn Try.prog cl noL noR noJ lf Try.f89) (B89 lf cl) := by intro q0p q0n q0c q0z q1 H K; kernel_rfl
theorem O89 (lf : Nat) (w0 : World) : OkB Try.prog w0 89 (PK.run [.slice, .val] (B89 lf)) := okb Try.checked.mixed (fn := Try.f89) rfl (E89 lf)
theorem M89 (lf : Nat) : MonoB (PK.run [.slice, .val] (B89 lf)) := mob (E89 lf)

/-- vedette/thing.Is$1 -/
def B90 (lf : Nat) (cl : Cl) (q0 : List AS) (H : AH) (K : AV → AH → Bool) : Bool :=
  newK H (.row q0) fun g1 h2 => rowK h2 g1 fun cs3 => ldG cs3 0 2 fun cs4 => cl 91 [AV.agg cs4] h2 fun r5 h6 => arB r5 fun b7 => fB (!b7) fun b8 => K (AV.s (AS.bool b8)) h6
theorem E90 (lf : Nat) (cl : Cl) : PK.Eq [.agg] (evFn Try.prog cl noL noR noJ lf Try.f90) (B90 lf cl) := by intro q0 H K; kernel_rfl
theorem O90 (lf : Nat) (w0 : World) : OkB Try.prog w0 90 (PK.run [.agg] (B90 lf)) := okb Try.checked.mixed (fn := Try.f90) rfl (E90 lf)
theorem M90 (lf : Nat) : MonoB (PK.run [.agg] (B90 lf)) := mob (E90 lf)

/-- vedette/fields.IsField -/
def B91 (lf : Nat) (cl : Cl) (q0 : List AS) (H : AH) (K : AV → AH → Bool) : Bool :=
  newK H (.row q0) fun g1 h2 => rowK h2 g1 fun cs3 => ldI cs3 0 .i64 fun n4 => fB (iEq n4 (Int.ofNat 0)) fun b5 => ifA b5 (rowK h2 g1 fun cs6 => ldStr cs6 1 fun s7 => fN (ln s7) fun o8 => fB (iLe (Int.ofNat o8) (Int.ofNat 12)) fun b9 => K (AV.s (AS.bool b9)) h2) (rowK h2 g1 fun cs10 => ldStr cs10 1 fun s11 => fB (sEq s11 []) fun b12 => ifA b12 (rowK h2 g1 fun cs13 => ldStr cs13 1 fun s14 => fN (ln s14) fun o15 => fB (iLe (Int.ofNat o15) (Int.ofNat 12)) fun b16 => K (AV.s (AS.bool b16)) h2) (K (AV.s (AS.bool false)) h2))
theorem E91 (lf : Nat) (cl : Cl) : PK.Eq [.agg] (evFn Try.prog cl noL noR noJ lf Try.f91) (B91 lf cl) := by intro q0 H K; kernel_rfl
theorem O91 (lf : Nat) (w0 : World) : OkB Try.prog w0 91 (PK.run [.agg] (B91 lf)) := okb Try.checked.mixed (fn := Try.f91) rfl (E91 lf)
theorem M91 (lf : Nat) : MonoB (PK.run [.agg] (B91 lf)) := mob (E91 lf)

/-- vedette/cells.Is -/
def B95 (lf : Nat) (cl : Cl) (q0 : Int) (H : AH) (K : AV → AH → Bool) : Bool :=
  fB (iLe (Int.ofNat 0) q0) fun b1 => ifA b1 (fB (iLt q0 (Int.ofNat 16)) fun b2 => K (AV.s (AS.bool b2)) H) (K (AV.s (AS.bool false)) H)
theorem E95 (lf : Nat) (cl : Cl) : PK.Eq [.int .i64] (evFn Try.prog cl noL noR noJ lf Try.f95) (B95 lf cl) := by intro q0 H K; kernel_rfl
theorem O95 (lf : Nat) (w0 : World) : OkB Try.prog w0 95 (PK.run [.int .i64] (B95 lf)) := okb Try.checked.mixed (fn := Try.f95) rfl (E95 lf)
theorem M95 (lf : Nat) : MonoB (PK.run [.int .i64] (B95 lf)) := mob (E95 lf)

/-- vedette/cells.place -/
def B96 (lf : Nat) (cl : Cl) (q0 : Int) (H : AH) (K : AV → AH → Bool) : Bool :=
  wrapK .u32 (q0) fun n1 => cl 113 [AV.s (AS.int .u32 n1)] H fun r2 h3 => tup2 r2 fun x4 x5 => arI x4 .u16 fun n6 => arI x5 .u16 fun n7 => w64 (n6) fun n8 => w64 (n7) fun n9 => K (AV.tup [AV.s (AS.int .i64 n8), AV.s (AS.int .i64 n9)]) h3
theorem E96 (lf : Nat) (cl : Cl) : PK.Eq [.int .i64] (evFn Try.prog cl noL noR noJ lf Try.f96) (B96 lf cl) := by intro q0 H K; kernel_rfl
theorem O96 (lf : Nat) (w0 : World) : OkB Try.prog w0 96 (PK.run [.int .i64] (B96 lf)) := okb Try.checked.mixed (fn := Try.f96) rfl (E96 lf)
theorem M96 (lf : Nat) : MonoB (PK.run [.int .i64] (B96 lf)) := mob (E96 lf)

/-- slices.IndexFunc[[]int,int] -/
def B98 (lf : Nat) (cl : Cl) (q0p : AP) (q0n : Nat) (q0c : ACap) (q0z : Nat) (q1 : AV) (H : AH) (K : AV → AH → Bool) : Bool :=
  (loopX lf (fun (self3 : ((AP × Nat × ACap × Nat) × AV × Int × Int) → AH → Bool) (x1 : (AP × Nat × ACap × Nat) × AV × Int × Int) (h2 : AH) => pR x1 fun u4 r4 => pR u4 fun p4 r4a => pR r4a fun l4 r4b => pR r4b fun c4 z4 => pR r4 fun v5 r6 => pR r6 fun n7 r8 => fB (iLt r8 n7) fun b10 => ifA b10 (nilK p4 fun g11 o12 => idxK r8 l4 fun m13 => fN (Nat.add o12 (Nat.mul m13 1)) fun o14 => rowK h2 g11 fun cs15 => ldI cs15 o14 .i64 fun n16 => callV Try.prog cl none (v5) [AV.s (AS.int .i64 n16)] h2 fun r17 h18 => asB r17 fun b19 => ifA b19 (K (AV.s (AS.int .i64 r8)) h18) (w64 (iAdd r8 (Int.ofNat 1)) fun n20 => self3 ((p4, l4, c4, z4), v5, n7, n20) h18)) (K (AV.s (AS.int .i64 (Int.negSucc 0))) h2)) ((q0p, q0n, q0c, q0z), q1, (Int.ofNat q0n), (Int.ofNat 0)) H)
def L98 : Nat → LoopA := fun id => match id with
  | 2 => ⟨(AP × Nat × ACap × Nat) × AV × Int × Int, (.pair (EncA.slice 0) (.pair (EncA.val 1) (.pair (EncA.int .i64 7) (EncA.int .i64 8))))⟩
  | _ => noA
theorem E98 (lf : Nat) (cl : Cl) : PK.Eq [.slice, .val] (evFn Try.prog cl L98 noR noJ lf Try.f98) (B98 lf cl) := by intro q0p q0n q0c q0z q1 H K; kernel_rfl
theorem O98 (lf : Nat) (w0 : World) : OkB Try.prog w0 98 (PK.run [.slice, .val] (B98 lf)) := okb Try.checked.mixed (fn := Try.f98) rfl (E98 lf)
theorem M98 (lf : Nat) : MonoB (PK.run [.slice, .val] (B98 lf)) := mob (E98 lf)

/-- slices.Clone[[]int,int] -/
def B99 (lf : Nat) (cl : Cl) (q0p : AP) (q0n : Nat) (q0c : ACap) (q0z : Nat) (H : AH) (K : AV → AH → Bool) : Bool :=
  fB (isNilP q0p) fun b1 => ifA b1 (K (AV.s (AS.slice AP.nil 0 (.lit 0) 1)) H) (newK H (.row []) fun g2 h3 => elK h3 q0p q0n 1 fun ys4 => appA h3 (.at g2 0) 0 1 1 8 ys4 q0n (.lit 0) fun p6 l6 c6 z6 h5 => K (AV.s (AS.slice p6 l6 c6 z6)) h5)
theorem E99 (lf : Nat) (cl : Cl) : PK.Eq [.slice] (evFn Try.prog cl noL noR noJ lf Try.f99) (B99 lf cl) := by intro q0p q0n q0c q0z H K; kernel_rfl
theorem O99 (lf : Nat) (w0 : World) : OkB Try.prog w0 99 (PK.run [.slice] (B99 lf)) := okb Try.checked.mixed (fn := Try.f99) rfl (E99 lf)
theorem M99 (lf : Nat) : MonoB (PK.run [.slice] (B99 lf)) := mob (E99 lf)

/-- vedette/geom.tidy -/
def B100 (lf : Nat) (cl : Cl) (q0 : List AS) (H : AH) (K : AV → AH → Bool) : Bool :=
  newK H (.row q0) fun g1 h2 => newK h2 (.row [AS.int .i64 (Int.ofNat 0), AS.int .i64 (Int.ofNat 0), AS.int .i64 (Int.ofNat 0), AS.int .i64 (Int.ofNat 0)]) fun g3 h4 => rowK h4 g1 fun cs5 => ldG cs5 0 4 fun cs6 => cl 83 [AV.agg cs6] h4 fun r7 h8 => arB r7 fun b9 => ifA b9 (stoN h8 g3 0 4 [AS.int .i64 (Int.ofNat 0), AS.int .i64 (Int.ofNat 0), AS.int .i64 (Int.ofNat 0), AS.int .i64 (Int.ofNat 0)] fun h10 => rowK h10 g3 fun cs11 => ldG cs11 0 4 fun cs12 => K (AV.agg cs12) h10) (rowK h8 g1 fun cs13 => ldG cs13 0 4 fun cs14 => stoN h8 g3 0 4 cs14 fun h15 => rowK h15 g3 fun cs16 => ldG cs16 0 4 fun cs17 => K (AV.agg cs17) h15)
theorem E100 (lf : Nat) (cl : Cl) : PK.Eq [.agg] (evFn Try.prog cl noL noR noJ lf Try.f100) (B100 lf cl) := by intro q0 H K; kernel_rfl
theorem O100 (lf : Nat) (w0 : World) : OkB Try.prog w0 100 (PK.run [.agg] (B100 lf)) := okb Try.checked.mixed (fn := Try.f100) rfl (E100 lf)
theorem M100 (lf : Nat) : MonoB (PK.run [.agg] (B100 lf)) := mob (E100 lf)

/-- slices.IndexFunc[[]vedette/api.Field,vedette/api.Field] -/
def B112 (lf : Nat) (cl : Cl) (q0p : AP) (q0n : Nat) (q0c : ACap) (q0z : Nat) (q1 : AV) (H : AH) (K : AV → AH → Bool) : Bool :=
  (loopX lf (fun (self3 : ((AP × Nat × ACap × Nat) × AV × Int × Int) → AH → Bool) (x1 : (AP × Nat × ACap × Nat) × AV × Int × Int) (h2 : AH) => pR x1 fun u4 r4 => pR u4 fun p4 r4a => pR r4a fun l4 r4b => pR r4b fun c4 z4 => pR r4 fun v5 r6 => pR r6 fun n7 r8 => fB (iLt r8 n7) fun b10 => ifA b10 (nilK p4 fun g11 o12 => idxK r8 l4 fun m13 => fN (Nat.add o12 (Nat.mul m13 2)) fun o14 => rowK h2 g11 fun cs15 => ldG cs15 o14 2 fun cs16 => callV Try.prog cl none (v5) [AV.agg cs16] h2 fun r17 h18 => asB r17 fun b19 => ifA b19 (K (AV.s (AS.int .i64 r8)) h18) (w64 (iAdd r8 (Int.ofNat 1)) fun n20 => self3 ((p4, l4, c4, z4), v5, n7, n20) h18)) (K (AV.s (AS.int .i64 (Int.negSucc 0))) h2)) ((q0p, q0n, q0c, q0z), q1, (Int.ofNat q0n), (Int.ofNat 0)) H)
def L112 : Nat → LoopA := fun id => match id with
  | 2 => ⟨(AP × Nat × ACap × Nat) × AV × Int × Int, (.pair (EncA.slice 0) (.pair (EncA.val 1) (.pair (EncA.int .i64 7) (EncA.int .i64 8))))⟩
  | _ => noA
theorem E112 (lf : Nat) (cl : Cl) : PK.Eq [.slice, .val] (evFn Try.prog cl L112 noR noJ lf Try.f112) (B112 lf cl) := by intro q0p q0n q0c q0z q1 H K; kernel_rfl
theorem O112 (lf : Nat) (w0 : World) : OkB Try.prog w0 112 (PK.run [.slice, .val] (B112 lf)) := okb Try.checked.mixed (fn := Try.f112) rfl (E112 lf)
theorem M112 (lf : Nat) : MonoB (PK.run [.slice, .val] (B112 lf)) := mob (E112 lf)

/-- vedette/morton.Split -/
def B113 (lf : Nat) (cl : Cl) (q0 : Int) (H : AH) (K : AV → AH → Bool) : Bool :=
  cl 120 [AV.s (AS.int .u32 q0)] H fun r1 h2 => arI r1 .u32 fun n3 => wrapK .u16 (n3) fun n4 => fI (Int.fdiv q0 (2 ^ (min (Int.toNat (Int.ofNat 1)) (IntKind.bits .u32)))) fun n5 => cl 120 [AV.s (AS.int .u32 n5)] h2 fun r6 h7 => arI r6 .u32 fun n8 => wrapK .u16 (n8) fun n9 => K (AV.tup [AV.s (AS.int .u16 n4), AV.s (AS.int .u16 n9)]) h7
theorem E113 (lf : Nat) (cl : Cl) : PK.Eq [.int .u32] (evFn Try.prog cl noL noR noJ lf Try.f113) (B113 lf cl) := by intro q0 H K; kernel_rfl
theorem O113 (lf : Nat) (w0 : World) : OkB Try.prog w0 113 (PK.run [.int .u32] (B113 lf)) := okb Try.checked.mixed (fn := Try.f113) rfl (E113 lf)
theorem M113 (lf : Nat) : MonoB (PK.run [.int .u32] (B113 lf)) := mob (E113 lf)

/-- vedette/morton.gather -/
def B120 (lf : Nat) (cl : Cl) (q0 : Int) (H : AH) (K : AV → AH → Bool) : Bool :=
  wrapK .u32 (BitVec.toNat (BitVec.ofInt (IntKind.bits .u32) q0 &&& BitVec.ofInt (IntKind.bits .u32) (Int.ofNat 1431655765))) fun n1 => fL (ap (α := AS) [AS.int .u64 (Int.ofNat 1), AS.int .u32 (Int.ofNat 858993459)] (ap (α := AS) [AS.int .u64 (Int.ofNat 2), AS.int .u32 (Int.ofNat 252645135)] (ap (α := AS) [AS.int .u64 (Int.ofNat 4), AS.int .u32 (Int.ofNat 16711935)] (ap (α := AS) [AS.int .u64 (Int.ofNat 8), AS.int .u32 (Int.ofNat 65535)] [])))) fun cs2 => (loopX lf (fun (self5 : (Int × List AS × Int) → AH → Bool) (x3 : Int × List AS × Int) (h4 : AH) => pR x3 fun n6 r7 => pR r7 fun cs8 r9 => fB (iLt r9 (Int.ofNat 4)) fun b11 => ifA b11 (idxK r9 4 fun m12 => fN (Nat.mul m12 2) fun o13 => ldG cs8 o13 2 fun cs14 => newK h4 (.row [AS.int .u64 (Int.ofNat 0), AS.int .u32 (Int.ofNat 0)]) fun g15 h16 => stoN h16 g15 0 2 cs14 fun h17 => rowK h17 g15 fun cs18 => ldI cs18 0 .u64 fun n19 => okK (iLe (Int.ofNat 0) n19) (fI (Int.fdiv n6 (2 ^ (min (Int.toNat n19) (IntKind.bits .u32)))) fun n20 => wrapK .u32 (BitVec.toNat (BitVec.ofInt (IntKind.bits .u32) n6 ||| BitVec.ofInt (IntKind.bits .u32) n20)) fun n21 => rowK h17 g15 fun cs22 => ldI cs22 1 .u32 fun n23 => wrapK .u32 (BitVec.toNat (BitVec.ofInt (IntKind.bits .u32) n21 &&& BitVec.ofInt (IntKind.bits .u32) n23)) fun n24 => w64 (iAdd r9 (Int.ofNat 1)) fun n25 => self5 (n24, cs8, n25) h17)) (K (AV.s (AS.int .u32 n6)) h4)) (n1, cs2, (Int.ofNat 0)) H)
def L120 : Nat → LoopA := fun id => match id with
  | 3 => ⟨Int × List AS × Int, (.pair (EncA.int .u32 0) (.pair (EncA.agg 11) (EncA.int .i64 12)))⟩
  | _ => noA
theorem E120 (lf : Nat) (cl : Cl) : PK.Eq [.int .u32] (evFn Try.prog cl L120 noR noJ lf Try.f120) (B120 lf cl) := by intro q0 H K; kernel_rfl
theorem O120 (lf : Nat) (w0 : World) : OkB Try.prog w0 120 (PK.run [.int .u32] (B120 lf)) := okb Try.checked.mixed (fn := Try.f120) rfl (E120 lf)
theorem M120 (lf : Nat) : MonoB (PK.run [.int .u32] (B120 lf)) := mob (E120 lf)

end
end Go.Proofs
