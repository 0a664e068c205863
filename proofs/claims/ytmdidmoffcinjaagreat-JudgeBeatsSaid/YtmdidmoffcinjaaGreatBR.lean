import Derived.Test.YtmdidmoffcinjaaGreatBQ
section
namespace Go.Proofs
open Go Go.Vw Go.Vw.Ev
set_option maxRecDepth 100000
set_option maxHeartbeats 4000000
set_option linter.unusedVariables false
noncomputable section
/-- vedette/region.New -/
def B_region_New (lf : Nat) (cl : Cl) (q0 : Int) (q1 : Int) (H : AH) (K : AV → AH → Bool) : Bool :=
  fI (mxA q1 (Int.ofNat 1)) fun n1 => fI (mnA n1 (Int.ofNat 4)) fun n2 => cl i_owner_New [AV.s (AS.int .i64 n2)] H fun r3 h4 => asP r3 fun p5 => fI (mxA q0 (Int.ofNat 0)) fun n6 => w64 (iSub n2 (Int.ofNat 1)) fun n7 => fI (mnA n6 n7) fun n8 => cl i_table_New [] h4 fun r9 h10 => asP r9 fun p11 => cl i_watch_New [] h10 fun r12 h13 => asP r12 fun p14 => fL (ap (α := AS) [AS.int .i64 n8, AS.int .i64 n2, AS.int .i64 (Int.ofNat 0), AS.slice AP.nil 0 (.lit 0) 1, AS.slice AP.nil 0 (.lit 0) 1, AS.slice AP.nil 0 (.lit 0) 1, AS.bool false, AS.int .i64 (Int.ofNat 0), AS.int .i64 (Int.ofNat 0), AS.int .i64 (Int.ofNat 0), AS.int .i64 (Int.ofNat 0), AS.int .i64 (Int.ofNat 0), AS.int .i64 (Int.ofNat 0), AS.bool false, AS.int .i64 (Int.ofNat 0), AS.int .i64 (Int.ofNat 0), AS.int .i64 (Int.ofNat 0), AS.int .i64 (Int.ofNat 0), AS.int .i64 (Int.ofNat 0), AS.int .i64 (Int.ofNat 0), AS.bool false, AS.int .i64 (Int.ofNat 0), AS.int .i64 (Int.ofNat 0), AS.int .i64 (Int.ofNat 0), AS.int .i64 (Int.ofNat 0), AS.int .i64 (Int.ofNat 0), AS.int .i64 (Int.ofNat 0), AS.bool false, AS.int .i64 (Int.ofNat 0), AS.int .i64 (Int.ofNat 0), AS.int .i64 (Int.ofNat 0), AS.int .i64 (Int.ofNat 0), AS.int .i64 (Int.ofNat 0), AS.int .i64 (Int.ofNat 0), AS.int .i64 (Int.ofNat 0), AS.slice AP.nil 0 (.lit 0) 1, AS.slice AP.nil 0 (.lit 0) 1, AS.int .i64 (Int.ofNat 0), AS.slice AP.nil 0 (.lit 0) 1, AS.int .i64 (Int.ofNat 0), AS.int .i64 (Int.ofNat 0), AS.slice AP.nil 0 (.lit 0) 1, AS.slice AP.nil 0 (.lit 0) 1, AS.slice AP.nil 0 (.lit 0) 1, AS.slice AP.nil 0 (.lit 0) 1] [AS.ptr p11, AS.ptr p5, AS.ptr p14]) fun cs15 => newK h13 (.row cs15) fun g16 h17 => K (AV.s (AS.ptr (.at g16 0))) h17
theorem E_region_New (lf : Nat) (cl : Cl) : PK.Eq [.int .i64, .int .i64] (evFn PG cl noL noR noJ lf Tryz.f20) (B_region_New lf cl) := by intro q0 q1 H K; kernel_rfl
theorem O_region_New (lf : Nat) (w0 : World) : OkB PG w0 i_region_New (PK.run [.int .i64, .int .i64] (B_region_New lf)) := okb mix (fn := Tryz.f20) rfl (E_region_New lf)

/-- (*vedette/region.Region).Order -/
def B_region_Region_Order (lf : Nat) (cl : Cl) (q0 : AP) (H : AH) (K : AV → AH → Bool) : Bool :=
  nilK q0 fun g1 o2 => fN (Nat.add o2 0) fun o3 => fN (Nat.add o3 38) fun o4 => rowK H g1 fun cs5 => ldSl cs5 o4 fun p6 l6 c6 z6 => cl i_slices_Clone_Taken [AV.s (AS.slice p6 l6 c6 z6)] H fun r7 h8 => asSl r7 fun p9 l9 c9 z9 => K (AV.s (AS.slice p9 l9 c9 z9)) h8
theorem E_region_Region_Order (lf : Nat) (cl : Cl) : PK.Eq [.ptr] (evFn PG cl noL noR noJ lf Tryz.f77) (B_region_Region_Order lf cl) := by intro q0 H K; kernel_rfl
theorem O_region_Region_Order (lf : Nat) (w0 : World) : OkB PG w0 i_region_Region_Order (PK.run [.ptr] (B_region_Region_Order lf)) := okb mix (fn := Tryz.f77) rfl (E_region_Region_Order lf)

end
end Go.Proofs
end
section
namespace Go.Proofs
open Go Go.Vw Go.Vw.Ev
set_option maxRecDepth 100000
set_option maxHeartbeats 4000000
set_option linter.unusedVariables false
noncomputable section
/-- vedette/owner.New -/
def B_owner_New (lf : Nat) (cl : Cl) (q0 : Int) (H : AH) (K : AV → AH → Bool) : Bool :=
  fI (mxA q0 (Int.ofNat 1)) fun n1 => fI (mnA n1 (Int.ofNat 4)) fun n2 => newK H (.row [AS.int .i64 n2, AS.int .i64 (Int.ofNat 0), AS.int .i64 (Int.ofNat 0), AS.int .i64 (Int.ofNat 0), AS.int .i64 (Int.ofNat 0), AS.int .i64 (Int.ofNat 0), AS.int .i64 (Int.ofNat 0), AS.int .i64 (Int.ofNat 0), AS.int .i64 (Int.ofNat 0), AS.int .i64 (Int.ofNat 0), AS.int .i64 (Int.ofNat 0), AS.int .i64 (Int.ofNat 0), AS.int .i64 (Int.ofNat 0), AS.int .i64 (Int.ofNat 0), AS.int .i64 (Int.ofNat 0), AS.int .i64 (Int.ofNat 0), AS.int .i64 (Int.ofNat 0), AS.int .i64 (Int.ofNat 0), AS.int .i64 (Int.ofNat 0), AS.int .i64 (Int.ofNat 0), AS.int .i64 (Int.ofNat 0), AS.int .i64 (Int.ofNat 0), AS.int .i64 (Int.ofNat 0), AS.int .i64 (Int.ofNat 0), AS.int .i64 (Int.ofNat 0), AS.int .i64 (Int.ofNat 0), AS.int .i64 (Int.ofNat 0), AS.int .i64 (Int.ofNat 0), AS.int .i64 (Int.ofNat 0), AS.int .i64 (Int.ofNat 0), AS.int .i64 (Int.ofNat 0), AS.int .i64 (Int.ofNat 0), AS.int .i64 (Int.ofNat 0)]) fun g3 h4 => (loopX lf (fun (self7 : (AP × Int) → AH → Bool) (x5 : AP × Int) (h6 : AH) => pR x5 fun p8 r9 => fB (iLt r9 (Int.ofNat 16)) fun b11 => ifA b11 (nilK p8 fun g12 o13 => fN (Nat.add o13 0) fun o14 => rowK h6 g12 fun cs15 => ldI cs15 o14 .i64 fun n16 => okK (!iEq n16 (Int.ofNat 0)) (fI (Int.tmod r9 n16) fun n17 => nilK p8 fun g18 o19 => fN (Nat.add o19 1) fun o20 => idxK r9 16 fun m21 => fN (Nat.add o20 (Nat.mul m21 2)) fun o22 => fN (Nat.add o22 0) fun o23 => sto1 h6 g18 o23 (AS.int .i64 n17) fun h24 => w64 (iAdd r9 (Int.ofNat 1)) fun n25 => self7 (p8, n25) h24)) (K (AV.s (AS.ptr p8)) h6)) ((.at g3 0), (Int.ofNat 0)) h4)
def L_owner_New : Nat → LoopA := fun id => match id with
  | 3 => ⟨AP × Int, (.pair (EncA.ptr 3) (EncA.int .i64 10))⟩
  | _ => noA
def R_owner_New : Nat → RegHint := fun id => match id with
  | 5 => ⟨(.op 0 (.op 1 (.op 2 (.op 3 (.op 4 (.op 5 (.op 6 (.op 7 (.op 8 (.op 9 (.op 10 (.op 11 (.op 12 .nil))))))))))))), 0, 0, 12, 0⟩
  | _ => ⟨.nil, 0, 0, 0, 0⟩
theorem E_owner_New (lf : Nat) (cl : Cl) : PK.Eq [.int .i64] (evFn PG cl L_owner_New R_owner_New noJ lf Tryz.f51) (B_owner_New lf cl) := by intro q0 H K; kernel_rfl
theorem O_owner_New (lf : Nat) (w0 : World) : OkB PG w0 i_owner_New (PK.run [.int .i64] (B_owner_New lf)) := okb mix (fn := Tryz.f51) rfl (E_owner_New lf)

end
end Go.Proofs
end
section
namespace Go.Proofs
open Go Go.Vw Go.Vw.Ev
set_option maxRecDepth 100000
set_option maxHeartbeats 4000000
set_option linter.unusedVariables false
noncomputable section
/-- vedette/watch.New -/
def B_watch_New (lf : Nat) (cl : Cl)  (H : AH) (K : AV → AH → Bool) : Bool :=
  newK H (.row [AS.bool false, AS.int .i64 (Int.ofNat 0), AS.int .i64 (Int.ofNat 0), AS.int .i64 (Int.ofNat 0), AS.int .i64 (Int.ofNat 0), AS.int .i64 (Int.ofNat 0), AS.int .i64 (Int.ofNat 0), AS.bool false, AS.int .i64 (Int.ofNat 0), AS.int .i64 (Int.ofNat 0), AS.int .i64 (Int.ofNat 0), AS.int .i64 (Int.ofNat 0), AS.int .i64 (Int.ofNat 0), AS.int .i64 (Int.ofNat 0), AS.bool false, AS.int .i64 (Int.ofNat 0), AS.int .i64 (Int.ofNat 0), AS.int .i64 (Int.ofNat 0), AS.int .i64 (Int.ofNat 0), AS.int .i64 (Int.ofNat 0), AS.int .i64 (Int.ofNat 0), AS.bool false, AS.int .i64 (Int.ofNat 0), AS.int .i64 (Int.ofNat 0), AS.int .i64 (Int.ofNat 0), AS.int .i64 (Int.ofNat 0), AS.int .i64 (Int.ofNat 0), AS.int .i64 (Int.ofNat 0)]) fun g1 h2 => K (AV.s (AS.ptr (.at g1 0))) h2
theorem E_watch_New (lf : Nat) (cl : Cl) : PK.Eq [] (evFn PG cl noL noR noJ lf Tryz.f45) (B_watch_New lf cl) := by intro  H K; kernel_rfl
theorem O_watch_New (lf : Nat) (w0 : World) : OkB PG w0 i_watch_New (PK.run [] (B_watch_New lf)) := okb mix (fn := Tryz.f45) rfl (E_watch_New lf)

/-- (*vedette/watch.Book).Do -/
def B_watch_Book_Do (lf : Nat) (cl : Cl) (q0 : AP) (q1 : List AS) (q2 : Int) (H : AH) (K : AV → AH → Bool) : Bool :=
  newK H (.row q1) fun g1 h2 => rowK h2 g1 fun cs3 => ldG cs3 0 22 fun cs4 => cl i_cmd_Is [AV.agg cs4] h2 fun r5 h6 => arB r5 fun b7 => fB (!b7) fun b8 => ifA b8 (K (AV.s (AS.int .i64 (Int.ofNat 11))) h6) (rowK h6 g1 fun cs9 => ldG cs9 0 22 fun cs10 => cl i_cmd_Watches [AV.agg cs10] h6 fun r11 h12 => arB r11 fun b13 => fB (!b13) fun b14 => ifA b14 (K (AV.s (AS.int .i64 (Int.ofNat 11))) h12) (rowK h12 g1 fun cs15 => ldI cs15 16 .i64 fun n16 => nilK q0 fun g17 o18 => fN (Nat.add o18 0) fun o19 => idxK n16 4 fun m20 => fN (Nat.add o19 (Nat.mul m20 7)) fun o21 => rowK h12 g1 fun cs22 => ldI cs22 0 .i64 fun n23 => fB (iEq n23 (Int.ofNat 6)) fun b24 => ifA b24 (rowK h12 g1 fun cs25 => ldI cs25 17 .i64 fun n26 => fN (Nat.add o21 1) fun o27 => rowK h12 g17 fun cs28 => ldI cs28 o27 .i64 fun n29 => fB (iLe n26 n29) fun b30 => ifA b30 (K (AV.s (AS.int .i64 (Int.ofNat 20))) h12) (getK h12 g1 fun k31 => rowK h12 g1 fun cs32 => ldI cs32 17 .i64 fun n33 => rowK h12 g1 fun cs34 => ldG cs34 18 4 fun cs35 => cl i_watch_Clip [AV.agg cs35] h12 fun r36 h37 => okK (kSame ((g1, k31) :: []) h37) (asG r36 fun cs38 => okK (Nat.beq (ln cs38) 4) (fL ((AS.bool true) :: (AS.int .i64 n33) :: (AS.int .i64 q2) :: (ap (α := AS) cs38 [])) fun cs39 => stoN h37 g17 o21 7 cs39 fun h40 => K (AV.s (AS.int .i64 (Int.ofNat 0))) h40)))) (joinX (fun (x51 : AP × AP × Bool) (h52 : AH) => pR x51 fun p54 r55 => pR r55 fun p56 r57 => ifA r57 (K (AV.s (AS.int .i64 (Int.ofNat 20))) h52) (nilK p54 fun g59 o60 => fN (Nat.add o60 0) fun o61 => rowK h52 g59 fun cs62 => ldI cs62 o61 .i64 fun n63 => fB (iEq n63 (Int.ofNat 7)) fun b64 => ifA b64 (nilK p54 fun g65 o66 => fN (Nat.add o66 18) fun o67 => rowK h52 g65 fun cs68 => ldG cs68 o67 4 fun cs69 => cl i_watch_Clip [AV.agg cs69] h52 fun r70 h71 => asG r70 fun cs72 => nilK p56 fun g73 o74 => fN (Nat.add o74 3) fun o75 => stoN h71 g73 o75 4 cs72 fun h76 => K (AV.s (AS.int .i64 (Int.ofNat 0))) h76) (nilK p56 fun g77 o78 => fN (Nat.add o78 0) fun o79 => sto1 h52 g77 o79 (AS.bool false) fun h80 => nilK p56 fun g81 o82 => fN (Nat.add o82 3) fun o83 => stoN h80 g81 o83 4 [AS.int .i64 (Int.ofNat 0), AS.int .i64 (Int.ofNat 0), AS.int .i64 (Int.ofNat 0), AS.int .i64 (Int.ofNat 0)] fun h84 => K (AV.s (AS.int .i64 (Int.ofNat 0))) h84))) fun J53 => fN (Nat.add o21 0) fun o41 => rowK h12 g17 fun cs42 => ldB cs42 o41 fun b43 => fB (!b43) fun b44 => ifA b44 (J53 ((.at g1 0), (.at g17 o21), true) h12) (rowK h12 g1 fun cs45 => ldI cs45 17 .i64 fun n46 => fN (Nat.add o21 1) fun o47 => rowK h12 g17 fun cs48 => ldI cs48 o47 .i64 fun n49 => fB (!iEq n46 n49) fun b50 => J53 ((.at g1 0), (.at g17 o21), b50) h12))))
def R_watch_Book_Do : Nat → RegHint := fun id => match id with
  | 3 => ⟨(.op 0 (.op 1 (.op 2 (.op 3 (.op 4 (.op 5 (.op 6 .nil))))))), 0, 0, 7, 0⟩
  | 5 => ⟨(.op 0 (.op 1 (.op 2 (.op 3 (.op 4 (.op 5 (.op 6 .nil))))))), 0, 0, 7, 0⟩
  | 7 => ⟨(.op 0 (.op 1 (.op 2 (.op 3 (.op 4 (.op 5 (.op 6 (.op 7 (.op 8 (.op 9 .nil)))))))))), 64, 4, 6, 0⟩
  | 10 => ⟨(.op 0 (.op 1 (.op 2 (.op 3 (.op 4 (.op 5 (.op 6 (.op 7 (.op 8 (.op 9 (.op 10 (.op 11 (.op 12 (.op 13 (.op 14 .nil))))))))))))))), 0, 0, 15, 0⟩
  | _ => ⟨.nil, 0, 0, 0, 0⟩
def J_watch_Book_Do : Option Nat → Option LoopA := fun id => match id with
  | some 11 => some ⟨AP × AP × Bool, (.pair (EncA.ptr 4) (.pair (EncA.ptr 7) (EncA.bool 48)))⟩
  | _ => none
theorem E_watch_Book_Do (lf : Nat) (cl : Cl) : PK.Eq [.ptr, .agg, .int .i64] (evFn PG cl noL R_watch_Book_Do J_watch_Book_Do lf Tryz.f47) (B_watch_Book_Do lf cl) := by intro q0 q1 q2 H K; kernel_rfl
theorem O_watch_Book_Do (lf : Nat) (w0 : World) : OkB PG w0 i_watch_Book_Do (PK.run [.ptr, .agg, .int .i64] (B_watch_Book_Do lf)) := okb mix (fn := Tryz.f47) rfl (E_watch_Book_Do lf)

/-- (*vedette/watch.Book).Of -/
def B_watch_Book_Of (lf : Nat) (cl : Cl) (q0 : AP) (q1 : Int) (H : AH) (K : AV → AH → Bool) : Bool :=
  newK H (.row [AS.bool false, AS.int .i64 (Int.ofNat 0), AS.int .i64 (Int.ofNat 0), AS.int .i64 (Int.ofNat 0), AS.int .i64 (Int.ofNat 0), AS.int .i64 (Int.ofNat 0), AS.int .i64 (Int.ofNat 0)]) fun g1 h2 => fB (iLt q1 (Int.ofNat 0)) fun b3 => ifA b3 (stoN h2 g1 0 7 [AS.bool false, AS.int .i64 (Int.ofNat 0), AS.int .i64 (Int.ofNat 0), AS.int .i64 (Int.ofNat 0), AS.int .i64 (Int.ofNat 0), AS.int .i64 (Int.ofNat 0), AS.int .i64 (Int.ofNat 0)] fun h5 => rowK h5 g1 fun cs6 => ldG cs6 0 7 fun cs7 => K (AV.agg cs7) h5) (fB (iLe (Int.ofNat 4) q1) fun b4 => ifA b4 (stoN h2 g1 0 7 [AS.bool false, AS.int .i64 (Int.ofNat 0), AS.int .i64 (Int.ofNat 0), AS.int .i64 (Int.ofNat 0), AS.int .i64 (Int.ofNat 0), AS.int .i64 (Int.ofNat 0), AS.int .i64 (Int.ofNat 0)] fun h8 => rowK h8 g1 fun cs9 => ldG cs9 0 7 fun cs10 => K (AV.agg cs10) h8) (nilK q0 fun g11 o12 => fN (Nat.add o12 0) fun o13 => idxK q1 4 fun m14 => fN (Nat.add o13 (Nat.mul m14 7)) fun o15 => rowK h2 g11 fun cs16 => ldG cs16 o15 7 fun cs17 => stoN h2 g1 0 7 cs17 fun h18 => rowK h18 g1 fun cs19 => ldG cs19 0 7 fun cs20 => K (AV.agg cs20) h18))
theorem E_watch_Book_Of (lf : Nat) (cl : Cl) : PK.Eq [.ptr, .int .i64] (evFn PG cl noL noR noJ lf Tryz.f48) (B_watch_Book_Of lf cl) := by intro q0 q1 H K; kernel_rfl
theorem O_watch_Book_Of (lf : Nat) (w0 : World) : OkB PG w0 i_watch_Book_Of (PK.run [.ptr, .int .i64] (B_watch_Book_Of lf)) := okb mix (fn := Tryz.f48) rfl (E_watch_Book_Of lf)

/-- vedette/watch.Clip -/
def B_watch_Clip (lf : Nat) (cl : Cl) (q0 : List AS) (H : AH) (K : AV → AH → Bool) : Bool :=
  newK H (.row q0) fun g1 h2 => newK h2 (.row [AS.int .i64 (Int.ofNat 0), AS.int .i64 (Int.ofNat 0), AS.int .i64 (Int.ofNat 0), AS.int .i64 (Int.ofNat 0)]) fun g3 h4 => rowK h4 g1 fun cs5 => ldG cs5 0 4 fun cs6 => cl i_geom_Meet [AV.agg cs6, AV.agg [AS.int .i64 (Int.ofNat 0), AS.int .i64 (Int.ofNat 0), AS.int .i64 (Int.ofNat 64), AS.int .i64 (Int.ofNat 64)]] h4 fun r7 h8 => asG r7 fun cs9 => stoN h8 g3 0 4 cs9 fun h10 => rowK h10 g3 fun cs11 => ldG cs11 0 4 fun cs12 => K (AV.agg cs12) h10
theorem E_watch_Clip (lf : Nat) (cl : Cl) : PK.Eq [.agg] (evFn PG cl noL noR noJ lf Tryz.f101) (B_watch_Clip lf cl) := by intro q0 H K; kernel_rfl
theorem O_watch_Clip (lf : Nat) (w0 : World) : OkB PG w0 i_watch_Clip (PK.run [.agg] (B_watch_Clip lf)) := okb mix (fn := Tryz.f101) rfl (E_watch_Clip lf)


end
end Go.Proofs
end
section
namespace Go.Proofs
open Go Go.Vw Go.Vw.Ev
set_option maxRecDepth 100000
set_option maxHeartbeats 4000000
set_option linter.unusedVariables false
noncomputable section
end
end Go.Proofs
end
section
namespace Go.Proofs
open Go Go.Vw Go.Vw.Ev
set_option maxRecDepth 100000
set_option maxHeartbeats 4000000
set_option linter.unusedVariables false
noncomputable section
/-- vedette/diff.Seen -/
def B_diff_Seen (lf : Nat) (cl : Cl) (q0p : AP) (q0n : Nat) (q0c : ACap) (q0z : Nat) (q1 : List AS) (H : AH) (K : AV → AH → Bool) : Bool :=
  newK H (.row q1) fun g1 h2 => (loopX lf (fun (self5 : (AP × (AP × Nat × ACap × Nat) × (AP × Nat × ACap × Nat) × Int × Int) → AH → Bool) (x3 : AP × (AP × Nat × ACap × Nat) × (AP × Nat × ACap × Nat) × Int × Int) (h4 : AH) => pR x3 fun p6 r7 => pR r7 fun u8 r8 => pR u8 fun p8 r8a => pR r8a fun l8 r8b => pR r8b fun c8 z8 => pR r8 fun u9 r9 => pR u9 fun p9 r9a => pR r9a fun l9 r9b => pR r9b fun c9 z9 => pR r9 fun n10 r11 => fB (iLt r11 n10) fun b13 => ifA b13 (nilK p9 fun g14 o15 => idxK r11 l9 fun m16 => fN (Nat.add o15 (Nat.mul m16 11)) fun o17 => rowK h4 g14 fun cs18 => ldG cs18 o17 11 fun cs19 => newK h4 (.row [AS.int .i64 (Int.ofNat 0), AS.int .i64 (Int.ofNat 0), AS.int .i64 (Int.ofNat 0), AS.int .i64 (Int.ofNat 0), AS.str [], AS.int .i64 (Int.ofNat 0), AS.str [], AS.int .i64 (Int.ofNat 0), AS.str [], AS.int .i64 (Int.ofNat 0), AS.str []]) fun g20 h21 => stoN h21 g20 0 11 cs19 fun h22 => nilK p6 fun g23 o24 => rowK h22 g23 fun cs25 => ldG cs25 o24 4 fun cs26 => rowK h22 g20 fun cs27 => ldG cs27 1 2 fun cs28 => cl i_geom_In [AV.agg cs26, AV.agg cs28] h22 fun r29 h30 => arB r29 fun b31 => ifA b31 (rowK h30 g20 fun cs32 => ldG cs32 0 11 fun cs33 => okK (Nat.beq (ln cs33) 11) (fL (ap (α := AS) cs33 []) fun cs34 => okK (Nat.beq (ln cs34) (1 * 11)) (newK h30 (.row cs34) fun g35 h36 => elK h36 (.at g35 0) 1 11 fun ys37 => appA h36 p8 l8 z8 11 120 ys37 1 c8 fun p39 l39 c39 z39 h38 => w64 (iAdd r11 (Int.ofNat 1)) fun n40 => self5 (p6, (p39, l39, c39, z39), (p9, l9, c9, z9), n10, n40) h38))) (w64 (iAdd r11 (Int.ofNat 1)) fun n41 => self5 (p6, (p8, l8, c8, z8), (p9, l9, c9, z9), n10, n41) h30)) (K (AV.s (AS.slice p8 l8 c8 z8)) h4)) ((.at g1 0), (AP.nil, 0, (.lit 0), 1), (q0p, q0n, q0c, q0z), (Int.ofNat q0n), (Int.ofNat 0)) h2)
def L_diff_Seen : Nat → LoopA := fun id => match id with
  | 3 => ⟨AP × (AP × Nat × ACap × Nat) × (AP × Nat × ACap × Nat) × Int × Int, (.pair (EncA.ptr 3) (.pair (EncA.slice 5) (.pair (EncA.slice 8) (.pair (EncA.int .i64 9) (EncA.int .i64 10)))))⟩
  | _ => noA
theorem E_diff_Seen (lf : Nat) (cl : Cl) : PK.Eq [.slice, .agg] (evFn PG cl L_diff_Seen noR noJ lf Tryz.f41) (B_diff_Seen lf cl) := by intro q0p q0n q0c q0z q1 H K; kernel_rfl
theorem O_diff_Seen (lf : Nat) (w0 : World) : OkB PG w0 i_diff_Seen (PK.run [.slice, .agg] (B_diff_Seen lf)) := okb mix (fn := Tryz.f41) rfl (E_diff_Seen lf)


end
end Go.Proofs
end
section
namespace Go.Proofs
open Go Go.Vw Go.Vw.Ev
set_option maxRecDepth 100000
set_option maxHeartbeats 4000000
set_option linter.unusedVariables false
noncomputable section
/-- vedette/event.Is -/
def B_event_Is (lf : Nat) (cl : Cl) (q0 : List AS) (H : AH) (K : AV → AH → Bool) : Bool :=
  newK H (.row q0) fun g1 h2 => rowK h2 g1 fun cs3 => ldG cs3 2 11 fun cs4 => okK (leavesA [Leaf.int .i64, Leaf.int .i64, Leaf.int .i64, Leaf.int .i64, Leaf.str, Leaf.int .i64, Leaf.str, Leaf.int .i64, Leaf.str, Leaf.int .i64, Leaf.str] cs4 && leavesA [Leaf.int .i64, Leaf.int .i64, Leaf.int .i64, Leaf.int .i64, Leaf.str, Leaf.int .i64, Leaf.str, Leaf.int .i64, Leaf.str, Leaf.int .i64, Leaf.str] [AS.int .i64 (Int.ofNat 0), AS.int .i64 (Int.ofNat 0), AS.int .i64 (Int.ofNat 0), AS.int .i64 (Int.ofNat 0), AS.str [], AS.int .i64 (Int.ofNat 0), AS.str [], AS.int .i64 (Int.ofNat 0), AS.str [], AS.int .i64 (Int.ofNat 0), AS.str []]) (fB (cellsEqA cs4 [AS.int .i64 (Int.ofNat 0), AS.int .i64 (Int.ofNat 0), AS.int .i64 (Int.ofNat 0), AS.int .i64 (Int.ofNat 0), AS.str [], AS.int .i64 (Int.ofNat 0), AS.str [], AS.int .i64 (Int.ofNat 0), AS.str [], AS.int .i64 (Int.ofNat 0), AS.str []]) fun b5 => rowK h2 g1 fun cs6 => ldG cs6 13 12 fun cs7 => okK (leavesA [Leaf.int .i64, Leaf.int .u8, Leaf.int .i64, Leaf.int .i64, Leaf.int .i64, Leaf.str, Leaf.int .i64, Leaf.str, Leaf.int .i64, Leaf.str, Leaf.int .i64, Leaf.str] cs7 && leavesA [Leaf.int .i64, Leaf.int .u8, Leaf.int .i64, Leaf.int .i64, Leaf.int .i64, Leaf.str, Leaf.int .i64, Leaf.str, Leaf.int .i64, Leaf.str, Leaf.int .i64, Leaf.str] [AS.int .i64 (Int.ofNat 0), AS.int .u8 (Int.ofNat 0), AS.int .i64 (Int.ofNat 0), AS.int .i64 (Int.ofNat 0), AS.int .i64 (Int.ofNat 0), AS.str [], AS.int .i64 (Int.ofNat 0), AS.str [], AS.int .i64 (Int.ofNat 0), AS.str [], AS.int .i64 (Int.ofNat 0), AS.str []]) (fB (cellsEqA cs7 [AS.int .i64 (Int.ofNat 0), AS.int .u8 (Int.ofNat 0), AS.int .i64 (Int.ofNat 0), AS.int .i64 (Int.ofNat 0), AS.int .i64 (Int.ofNat 0), AS.str [], AS.int .i64 (Int.ofNat 0), AS.str [], AS.int .i64 (Int.ofNat 0), AS.str [], AS.int .i64 (Int.ofNat 0), AS.str []]) fun b8 => rowK h2 g1 fun cs9 => ldI cs9 0 .i64 fun n10 => fB (iEq n10 (Int.ofNat 1)) fun b11 => ifA b11 (rowK h2 g1 fun cs12 => ldG cs12 2 11 fun cs13 => cl i_thing_Is [AV.agg cs13] h2 fun r14 h15 => arB r14 fun b16 => ifA b16 (rowK h15 g1 fun cs17 => ldI cs17 1 .i64 fun n18 => rowK h15 g1 fun cs19 => ldI cs19 2 .i64 fun n20 => fB (iEq n18 n20) fun b21 => ifA b21 (K (AV.s (AS.bool b8)) h15) (K (AV.s (AS.bool false)) h15)) (K (AV.s (AS.bool false)) h15)) (fB (iEq n10 (Int.ofNat 2)) fun b22 => ifA b22 (rowK h2 g1 fun cs23 => ldG cs23 13 12 fun cs24 => cl i_fields_IsDelta [AV.agg cs24] h2 fun r25 h26 => arB r25 fun b27 => ifA b27 (rowK h26 g1 fun cs28 => ldI cs28 1 .i64 fun n29 => rowK h26 g1 fun cs30 => ldI cs30 13 .i64 fun n31 => fB (iEq n29 n31) fun b32 => ifA b32 (K (AV.s (AS.bool b5)) h26) (K (AV.s (AS.bool false)) h26)) (K (AV.s (AS.bool false)) h26)) (fB (iEq n10 (Int.ofNat 3)) fun b33 => ifA b33 (rowK h2 g1 fun cs34 => ldI cs34 1 .i64 fun n35 => fB (iLe (Int.ofNat 0) n35) fun b36 => ifA b36 (rowK h2 g1 fun cs37 => ldI cs37 1 .i64 fun n38 => fB (iLe n38 (Int.ofNat 1000000)) fun b39 => ifA b39 (ifA b5 (K (AV.s (AS.bool b8)) h2) (K (AV.s (AS.bool false)) h2)) (K (AV.s (AS.bool false)) h2)) (K (AV.s (AS.bool false)) h2)) (K (AV.s (AS.bool false)) h2)))))
def R_event_Is : Nat → RegHint := fun id => match id with
  | 1 => ⟨(.op 0 (.op 1 (.op 2 (.op 3 (.op 4 (.op 5 (.op 6 (.op 7 (.op 8 (.op 9 .nil)))))))))), 0, 0, 10, 0⟩
  | _ => ⟨.nil, 0, 0, 0, 0⟩
theorem E_event_Is (lf : Nat) (cl : Cl) : PK.Eq [.agg] (evFn PG cl noL R_event_Is noJ lf Tryz.f97) (B_event_Is lf cl) := by intro q0 H K; kernel_rfl
theorem O_event_Is (lf : Nat) (w0 : World) : OkB PG w0 i_event_Is (PK.run [.agg] (B_event_Is lf)) := okb mix (fn := Tryz.f97) rfl (E_event_Is lf)

/-- vedette/event.Fold -/
def B_event_Fold (lf : Nat) (cl : Cl) (q0p : AP) (q0n : Nat) (q0c : ACap) (q0z : Nat) (q1p : AP) (q1n : Nat) (q1c : ACap) (q1z : Nat) (H : AH) (K : AV → AH → Bool) : Bool :=
  cl i_slices_Clone_Thing [AV.s (AS.slice q0p q0n q0c q0z)] H fun r1 h2 => asSl r1 fun p3 l3 c3 z3 => joinX (fun (x35 : (AP × Nat × ACap × Nat) × (AP × Nat × ACap × Nat) × Bool) (h36 : AH) => pR x35 fun u38 r38 => pR u38 fun p38 r38a => pR r38a fun l38 r38b => pR r38b fun c38 z38 => pR r38 fun u39 r39 => pR u39 fun p39 r39a => pR r39a fun l39 r39b => pR r39b fun c39 z39 => fB (!r39) fun b41 => ifA b41 (cl i_slices_Clone_Thing [AV.s (AS.slice p38 l38 c38 z38)] h36 fun r42 h43 => asSl r42 fun p44 l44 c44 z44 => K (AV.tup [AV.s (AS.slice p44 l44 c44 z44), AV.s (AS.bool false)]) h43) (K (AV.tup [AV.s (AS.slice p39 l39 c39 z39), AV.s (AS.bool true)]) h36)) fun J37 => (loopX lf (fun (self6 : ((AP × Nat × ACap × Nat) × (AP × Nat × ACap × Nat) × Bool × (AP × Nat × ACap × Nat) × Int × Int) → AH → Bool) (x4 : (AP × Nat × ACap × Nat) × (AP × Nat × ACap × Nat) × Bool × (AP × Nat × ACap × Nat) × Int × Int) (h5 : AH) => pR x4 fun u7 r7 => pR u7 fun p7 r7a => pR r7a fun l7 r7b => pR r7b fun c7 z7 => pR r7 fun u8 r8 => pR u8 fun p8 r8a => pR r8a fun l8 r8b => pR r8b fun c8 z8 => pR r8 fun b9 r10 => pR r10 fun u11 r11 => pR u11 fun p11 r11a => pR r11a fun l11 r11b => pR r11b fun c11 z11 => pR r11 fun n12 r13 => fB (iLt r13 n12) fun b15 => ifA b15 (nilK p11 fun g16 o17 => idxK r13 l11 fun m18 => fN (Nat.add o17 (Nat.mul m18 25)) fun o19 => rowK h5 g16 fun cs20 => ldG cs20 o19 25 fun cs21 => newK h5 (.row [AS.int .i64 (Int.ofNat 0), AS.int .i64 (Int.ofNat 0), AS.int .i64 (Int.ofNat 0), AS.int .i64 (Int.ofNat 0), AS.int .i64 (Int.ofNat 0), AS.int .i64 (Int.ofNat 0), AS.str [], AS.int .i64 (Int.ofNat 0), AS.str [], AS.int .i64 (Int.ofNat 0), AS.str [], AS.int .i64 (Int.ofNat 0), AS.str [], AS.int .i64 (Int.ofNat 0), AS.int .u8 (Int.ofNat 0), AS.int .i64 (Int.ofNat 0), AS.int .i64 (Int.ofNat 0), AS.int .i64 (Int.ofNat 0), AS.str [], AS.int .i64 (Int.ofNat 0), AS.str [], AS.int .i64 (Int.ofNat 0), AS.str [], AS.int .i64 (Int.ofNat 0), AS.str []]) fun g22 h23 => stoN h23 g22 0 25 cs21 fun h24 => rowK h24 g22 fun cs25 => ldG cs25 0 25 fun cs26 => cl i_event_Apply [AV.s (AS.slice p8 l8 c8 z8), AV.agg cs26] h24 fun r27 h28 => tup2 r27 fun x29 x30 => asSl x29 fun p31 l31 c31 z31 => arB x30 fun b32 => fB (!b32) fun b33 => ifA b33 (J37 ((p7, l7, c7, z7), (p31, l31, c31, z31), b32) h28) (w64 (iAdd r13 (Int.ofNat 1)) fun n34 => self6 ((p7, l7, c7, z7), (p31, l31, c31, z31), b32, (p11, l11, c11, z11), n12, n34) h28)) (J37 ((p7, l7, c7, z7), (p8, l8, c8, z8), b9) h5)) ((q0p, q0n, q0c, q0z), (p3, l3, c3, z3), true, (q1p, q1n, q1c, q1z), (Int.ofNat q1n), (Int.ofNat 0)) h2)
def L_event_Fold : Nat → LoopA := fun id => match id with
  | 3 => ⟨(AP × Nat × ACap × Nat) × (AP × Nat × ACap × Nat) × Bool × (AP × Nat × ACap × Nat) × Int × Int, (.pair (EncA.slice 0) (.pair (EncA.slice 6) (.pair (EncA.bool 7) (.pair (EncA.slice 12) (.pair (EncA.int .i64 13) (EncA.int .i64 14))))))⟩
  | _ => noA
def J_event_Fold : Option Nat → Option LoopA := fun id => match id with
  | some 8 => some ⟨(AP × Nat × ACap × Nat) × (AP × Nat × ACap × Nat) × Bool, (.pair (EncA.slice 0) (.pair (EncA.slice 6) (EncA.bool 7)))⟩
  | _ => none
theorem E_event_Fold (lf : Nat) (cl : Cl) : PK.Eq [.slice, .slice] (evFn PG cl L_event_Fold noR J_event_Fold lf Tryz.f98) (B_event_Fold lf cl) := by intro q0p q0n q0c q0z q1p q1n q1c q1z H K; kernel_rfl
theorem O_event_Fold (lf : Nat) (w0 : World) : OkB PG w0 i_event_Fold (PK.run [.slice, .slice] (B_event_Fold lf)) := okb mix (fn := Tryz.f98) rfl (E_event_Fold lf)

/-- vedette/event.Apply -/
def B_event_Apply (lf : Nat) (cl : Cl) (q0p : AP) (q0n : Nat) (q0c : ACap) (q0z : Nat) (q1 : List AS) (H : AH) (K : AV → AH → Bool) : Bool :=
  newK H (.row q1) fun g1 h2 => rowK h2 g1 fun cs3 => ldI cs3 1 .i64 fun n4 => cl i_slices_BinarySearchFunc_Thing_int [AV.s (AS.slice q0p q0n q0c q0z), AV.s (AS.int .i64 n4), AV.s (AS.func i_event_Apply_1 [] [])] h2 fun r5 h6 => tup2 r5 fun x7 x8 => arI x7 .i64 fun n9 => arB x8 fun b10 => joinX (fun (x21 : (AP × Nat × ACap × Nat) × AP × Int × Bool) (h22 : AH) => pR x21 fun u24 r24 => pR u24 fun p24 r24a => pR r24a fun l24 r24b => pR r24b fun c24 z24 => pR r24 fun p25 r26 => pR r26 fun n27 r28 => ifA r28 (cl i_slices_Clone_Thing [AV.s (AS.slice p24 l24 c24 z24)] h22 fun r30 h31 => asSl r30 fun p32 l32 c32 z32 => K (AV.tup [AV.s (AS.slice p32 l32 c32 z32), AV.s (AS.bool false)]) h31) (cl i_slices_Clone_Thing [AV.s (AS.slice p24 l24 c24 z24)] h22 fun r33 h34 => asSl r33 fun p35 l35 c35 z35 => nilK p25 fun g36 o37 => fN (Nat.add o37 0) fun o38 => rowK h34 g36 fun cs39 => ldI cs39 o38 .i64 fun n40 => fB (iEq n40 (Int.ofNat 1)) fun b41 => ifA b41 (nilK p25 fun g42 o43 => fN (Nat.add o43 2) fun o44 => rowK h34 g42 fun cs45 => ldG cs45 o44 11 fun cs46 => okK (Nat.beq (ln cs46) 11) (fL (ap (α := AS) cs46 []) fun cs47 => okK (Nat.beq (ln cs47) (1 * 11)) (newK h34 (.row cs47) fun g48 h49 => cl i_slices_Insert_Thing [AV.s (AS.slice p35 l35 c35 z35), AV.s (AS.int .i64 n27), AV.s (AS.slice (.at g48 0) 1 (.lit 1) 11)] h49 fun r50 h51 => asSl r50 fun p52 l52 c52 z52 => K (AV.tup [AV.s (AS.slice p52 l52 c52 z52), AV.s (AS.bool true)]) h51))) (fB (iEq n40 (Int.ofNat 2)) fun b53 => ifA b53 (nilK p35 fun g54 o55 => idxK n27 l35 fun m56 => fN (Nat.add o55 (Nat.mul m56 11)) fun o57 => rowK h34 g54 fun cs58 => ldG cs58 o57 11 fun cs59 => nilK p25 fun g60 o61 => fN (Nat.add o61 13) fun o62 => rowK h34 g60 fun cs63 => ldG cs63 o62 12 fun cs64 => cl i_fields_Apply [AV.agg cs59, AV.agg cs64] h34 fun r65 h66 => asG r65 fun cs67 => nilK p35 fun g68 o69 => idxK n27 l35 fun m70 => fN (Nat.add o69 (Nat.mul m70 11)) fun o71 => stoN h66 g68 o71 11 cs67 fun h72 => K (AV.tup [AV.s (AS.slice p35 l35 c35 z35), AV.s (AS.bool true)]) h72) (w64 (iAdd n27 (Int.ofNat 1)) fun n73 => cl i_slices_Delete_Thing [AV.s (AS.slice p35 l35 c35 z35), AV.s (AS.int .i64 n27), AV.s (AS.int .i64 n73)] h34 fun r74 h75 => asSl r74 fun p76 l76 c76 z76 => K (AV.tup [AV.s (AS.slice p76 l76 c76 z76), AV.s (AS.bool true)]) h75)))) fun J23 => rowK h6 g1 fun cs11 => ldG cs11 0 25 fun cs12 => cl i_event_Is [AV.agg cs12] h6 fun r13 h14 => arB r13 fun b15 => fB (!b15) fun b16 => ifA b16 (J23 ((q0p, q0n, q0c, q0z), (.at g1 0), n9, true) h14) (rowK h14 g1 fun cs17 => ldI cs17 0 .i64 fun n18 => fB (iEq n18 (Int.ofNat 1)) fun b19 => fB (bEq b10 b19) fun b20 => J23 ((q0p, q0n, q0c, q0z), (.at g1 0), n9, b20) h14)
def R_event_Apply : Nat → RegHint := fun id => match id with
  | 10 => ⟨(.op 0 (.op 1 (.op 2 (.op 3 (.op 4 (.op 5 (.op 6 (.op 7 (.op 8 (.op 9 (.op 10 .nil))))))))))), 0, 0, 8, 0⟩
  | _ => ⟨.nil, 0, 0, 0, 0⟩
def J_event_Apply : Option Nat → Option LoopA := fun id => match id with
  | some 3 => some ⟨(AP × Nat × ACap × Nat) × AP × Int × Bool, (.pair (EncA.slice 0) (.pair (EncA.ptr 3) (.pair (EncA.int .i64 6) (EncA.bool 25))))⟩
  | _ => none
theorem E_event_Apply (lf : Nat) (cl : Cl) : PK.Eq [.slice, .agg] (evFn PG cl noL R_event_Apply J_event_Apply lf Tryz.f161) (B_event_Apply lf cl) := by intro q0p q0n q0c q0z q1 H K; kernel_rfl
theorem O_event_Apply (lf : Nat) (w0 : World) : OkB PG w0 i_event_Apply (PK.run [.slice, .agg] (B_event_Apply lf)) := okb mix (fn := Tryz.f161) rfl (E_event_Apply lf)

/-- vedette/event.Apply$1 -/
def B_event_Apply_1 (lf : Nat) (cl : Cl) (q0 : List AS) (q1 : Int) (H : AH) (K : AV → AH → Bool) : Bool :=
  newK H (.row q0) fun g1 h2 => rowK h2 g1 fun cs3 => ldI cs3 0 .i64 fun n4 => cl i_cmp_Compare_int [AV.s (AS.int .i64 n4), AV.s (AS.int .i64 q1)] h2 fun r5 h6 => arI r5 .i64 fun n7 => K (AV.s (AS.int .i64 n7)) h6
theorem E_event_Apply_1 (lf : Nat) (cl : Cl) : PK.Eq [.agg, .int .i64] (evFn PG cl noL noR noJ lf Tryz.f200) (B_event_Apply_1 lf cl) := by intro q0 q1 H K; kernel_rfl
theorem O_event_Apply_1 (lf : Nat) (w0 : World) : OkB PG w0 i_event_Apply_1 (PK.run [.agg, .int .i64] (B_event_Apply_1 lf)) := okb mix (fn := Tryz.f200) rfl (E_event_Apply_1 lf)

end
end Go.Proofs
end
section
namespace Go.Proofs
open Go Go.Vw Go.Vw.Ev
set_option maxRecDepth 100000
set_option maxHeartbeats 4000000
set_option linter.unusedVariables false
noncomputable section
/-- vedette/view.New -/
def B_view_New (lf : Nat) (cl : Cl) (q0 : Int) (q1 : Int) (q2 : Int) (H : AH) (K : AV → AH → Bool) : Bool :=
  fI (mxA q2 (Int.ofNat 1)) fun n1 => fI (mnA n1 (Int.ofNat 4)) fun n2 => newK H (.pmap []) fun g3 h4 => newK h4 (.row [AS.int .i64 q0, AS.int .i64 q1, AS.int .i64 n2, AS.int .i64 (Int.negSucc 0), AS.int .i64 (Int.negSucc 0), AS.slice AP.nil 0 (.lit 0) 1, AS.slice AP.nil 0 (.lit 0) 1, AS.map (some g3)]) fun g5 h6 => K (AV.s (AS.ptr (.at g5 0))) h6
theorem E_view_New (lf : Nat) (cl : Cl) : PK.Eq [.int .i64, .int .i64, .int .i64] (evFn PG cl noL noR noJ lf Tryz.f10) (B_view_New lf cl) := by intro q0 q1 q2 H K; kernel_rfl
theorem O_view_New (lf : Nat) (w0 : World) : OkB PG w0 i_view_New (PK.run [.int .i64, .int .i64, .int .i64] (B_view_New lf)) := okb mix (fn := Tryz.f10) rfl (E_view_New lf)

/-- (*vedette/view.View).Take -/
def B_view_View_Take (lf : Nat) (cl : Cl) (q0 : AP) (q1 : List AS) (H : AH) (K : AV → AH → Bool) : Bool :=
  newK H (.row q1) fun g1 h2 => rowK h2 g1 fun cs3 => ldG cs3 0 6 fun cs4 => cl i_view_View_may [AV.s (AS.ptr q0), AV.agg cs4] h2 fun r5 h6 => arB r5 fun b7 => fB (!b7) fun b8 => ifA b8 (K (AV.s (AS.bool false)) h6) (rowK h6 g1 fun cs9 => ldI cs9 3 .i64 fun n10 => nilK q0 fun g11 o12 => fN (Nat.add o12 4) fun o13 => sto1 h6 g11 o13 (AS.int .i64 n10) fun h14 => nilK q0 fun g15 o16 => fN (Nat.add o16 7) fun o17 => getK h14 g15 fun k18 => rowK h14 g15 fun cs19 => ldM cs19 o17 fun r20 => getK h14 g1 fun k21 => rowK h14 g1 fun cs22 => ldI cs22 0 .i64 fun n23 => getK h14 g1 fun k24 => rowK h14 g1 fun cs25 => ldI cs25 4 .i64 fun n26 => rowK h14 g1 fun cs27 => ldSl cs27 5 fun p28 l28 c28 z28 => cl i_slices_Clone_Event [AV.s (AS.slice p28 l28 c28 z28)] h14 fun r29 h30 => okK (kSame ((g1, k24) :: ((g1, k21) :: ((g15, k18) :: []))) h30) (asSl r29 fun p31 l31 c31 z31 => asQ (AV.agg [AS.int .i64 n23, AS.int .i64 n26]) fun q35 => asMp (AV.s (AS.map r20)) fun g36 => mapP h30 g36 fun es32 => fL (setA es32 q35 (AV.s (AS.slice p31 l31 c31 z31))) fun es33 => wrK h30 g36 (some (.pmap es33)) fun h34 => (loopX lf (fun (self39 : (AP) → AH → Bool) (x37 : AP) (h38 : AH) => nilK x37 fun g41 o42 => fN (Nat.add o42 3) fun o43 => rowK h38 g41 fun cs44 => ldI cs44 o43 .i64 fun n45 => w64 (iAdd n45 (Int.ofNat 1)) fun n46 => nilK x37 fun g47 o48 => fN (Nat.add o48 4) fun o49 => rowK h38 g47 fun cs50 => ldI cs50 o49 .i64 fun n51 => fI (mxA n46 n51) fun n52 => nilK x37 fun g53 o54 => fN (Nat.add o54 2) fun o55 => rowK h38 g53 fun cs56 => ldI cs56 o55 .i64 fun n57 => (loopX lf (fun (self60 : (AP × Int × Int × Int) → AH → Bool) (x58 : AP × Int × Int × Int) (h59 : AH) => pR x58 fun p61 r62 => pR r62 fun n63 r64 => pR r64 fun n65 r66 => fB (iLt r66 n65) fun b68 => ifA b68 (nilK p61 fun g69 o70 => fN (Nat.add o70 7) fun o71 => rowK h59 g69 fun cs72 => ldM cs72 o71 fun r73 => asQ (AV.agg [AS.int .i64 r66, AS.int .i64 n63]) fun q77 => asMp (AV.s (AS.map r73)) fun g78 => mapP h59 g78 fun es74 => lkZ es74 q77 (AV.s (AS.slice AP.nil 0 (.lit 0) 1)) fun v75 b76 => asSl v75 fun p79 l79 c79 z79 => fB (!b76) fun b80 => ifA b80 (K (AV.s (AS.bool true)) h59) (w64 (iAdd r66 (Int.ofNat 1)) fun n81 => self60 (p61, n63, n65, n81) h59)) (nilK p61 fun g82 o83 => fN (Nat.add o83 2) fun o84 => rowK h59 g82 fun cs85 => ldI cs85 o84 .i64 fun n86 => (loopX lf (fun (self89 : (AP × Int × Int × Int) → AH → Bool) (x87 : AP × Int × Int × Int) (h88 : AH) => pR x87 fun p90 r91 => pR r91 fun n92 r93 => pR r93 fun n94 r95 => fB (iLt r95 n94) fun b97 => ifA b97 (nilK p90 fun g98 o99 => fN (Nat.add o99 7) fun o100 => rowK h88 g98 fun cs101 => ldM cs101 o100 fun r102 => asQ (AV.agg [AS.int .i64 r95, AS.int .i64 n92]) fun q106 => asMp (AV.s (AS.map r102)) fun g107 => mapP h88 g107 fun es103 => lkZ es103 q106 (AV.s (AS.slice AP.nil 0 (.lit 0) 1)) fun v104 b105 => asSl v104 fun p108 l108 c108 z108 => cl i_view_View_folds [AV.s (AS.ptr p90), AV.s (AS.slice p108 l108 c108 z108)] h88 fun r109 h110 => tup0 r109 (nilK p90 fun g111 o112 => fN (Nat.add o112 7) fun o113 => rowK h110 g111 fun cs114 => ldM cs114 o113 fun r115 => asQ (AV.agg [AS.int .i64 r95, AS.int .i64 n92]) fun q119 => asMp (AV.s (AS.map r115)) fun g120 => mapP h110 g120 fun es116 => fL (delA es116 q119) fun es117 => wrK h110 g120 (some (.pmap es117)) fun h118 => w64 (iAdd r95 (Int.ofNat 1)) fun n121 => self89 (p90, n92, n94, n121) h118)) (nilK p90 fun g122 o123 => fN (Nat.add o123 3) fun o124 => sto1 h88 g122 o124 (AS.int .i64 n92) fun h125 => self39 p90 h125)) (p61, n63, n86, (Int.ofNat 0)) h59))) (x37, n52, n57, (Int.ofNat 0)) h38)) q0 h34)))
def L_view_View_Take : Nat → LoopA := fun id => match id with
  | 5 => ⟨AP, (EncA.ptr 0)⟩
  | 7 => ⟨AP × Int × Int × Int, (.pair (EncA.ptr 0) (.pair (EncA.int .i64 5) (.pair (EncA.int .i64 44) (EncA.int .i64 45))))⟩
  | 13 => ⟨AP × Int × Int × Int, (.pair (EncA.ptr 0) (.pair (EncA.int .i64 5) (.pair (EncA.int .i64 65) (EncA.int .i64 66))))⟩
  | _ => noA
def R_view_View_Take : Nat → RegHint := fun id => match id with
  | 4 => ⟨(.op 0 (.op 1 (.op 2 (.op 3 (.op 4 (.op 5 (.op 6 (.op 7 (.op 8 (.op 9 (.op 10 (.op 11 (.op 12 .nil))))))))))))), 2048, 168, 11, 0⟩
  | 5 => ⟨(.op 0 (.op 1 (.op 2 (.op 3 (.op 4 (.op 5 (.op 6 (.op 7 (.op 8 (.op 9 (.op 10 .nil))))))))))), 0, 0, 11, 0⟩
  | _ => ⟨.nil, 0, 0, 0, 0⟩
theorem E_view_View_Take (lf : Nat) (cl : Cl) : PK.Eq [.ptr, .agg] (evFn PG cl L_view_View_Take R_view_View_Take noJ lf Tryz.f12) (B_view_View_Take lf cl) := by intro q0 q1 H K; kernel_rfl
theorem O_view_View_Take (lf : Nat) (w0 : World) : OkB PG w0 i_view_View_Take (PK.run [.ptr, .agg] (B_view_View_Take lf)) := okb mix (fn := Tryz.f12) rfl (E_view_View_Take lf)

/-- (*vedette/view.View).Beat -/
def B_view_View_Beat (lf : Nat) (cl : Cl) (q0 : AP) (H : AH) (K : AV → AH → Bool) : Bool :=
  nilK q0 fun g1 o2 => fN (Nat.add o2 3) fun o3 => rowK H g1 fun cs4 => ldI cs4 o3 .i64 fun n5 => K (AV.s (AS.int .i64 n5)) H
theorem E_view_View_Beat (lf : Nat) (cl : Cl) : PK.Eq [.ptr] (evFn PG cl noL noR noJ lf Tryz.f15) (B_view_View_Beat lf cl) := by intro q0 H K; kernel_rfl
theorem O_view_View_Beat (lf : Nat) (w0 : World) : OkB PG w0 i_view_View_Beat (PK.run [.ptr] (B_view_View_Beat lf)) := okb mix (fn := Tryz.f15) rfl (E_view_View_Beat lf)

/-- (*vedette/view.View).Things -/
def B_view_View_Things (lf : Nat) (cl : Cl) (q0 : AP) (H : AH) (K : AV → AH → Bool) : Bool :=
  nilK q0 fun g1 o2 => fN (Nat.add o2 5) fun o3 => rowK H g1 fun cs4 => ldSl cs4 o3 fun p5 l5 c5 z5 => cl i_slices_Clone_Thing [AV.s (AS.slice p5 l5 c5 z5)] H fun r6 h7 => asSl r6 fun p8 l8 c8 z8 => K (AV.s (AS.slice p8 l8 c8 z8)) h7
theorem E_view_View_Things (lf : Nat) (cl : Cl) : PK.Eq [.ptr] (evFn PG cl noL noR noJ lf Tryz.f16) (B_view_View_Things lf cl) := by intro q0 H K; kernel_rfl
theorem O_view_View_Things (lf : Nat) (w0 : World) : OkB PG w0 i_view_View_Things (PK.run [.ptr] (B_view_View_Things lf)) := okb mix (fn := Tryz.f16) rfl (E_view_View_Things lf)

/-- (*vedette/view.View).may -/
def B_view_View_may (lf : Nat) (cl : Cl) (q0 : AP) (q1 : List AS) (H : AH) (K : AV → AH → Bool) : Bool :=
  newK H (.row q1) fun g1 h2 => joinX (fun (x30 : AP × AP × Bool) (h31 : AH) => pR x30 fun p33 r34 => pR r34 fun p35 r36 => ifA r36 (K (AV.s (AS.bool false)) h31) (joinX (fun (x72 : AP × AP × Bool) (h73 : AH) => pR x72 fun p75 r76 => pR r76 fun p77 r78 => ifA r78 (K (AV.s (AS.bool false)) h73) (nilK p77 fun g80 o81 => fN (Nat.add o81 4) fun o82 => rowK h73 g80 fun cs83 => ldI cs83 o82 .i64 fun n84 => nilK p75 fun g85 o86 => fN (Nat.add o86 3) fun o87 => rowK h73 g85 fun cs88 => ldI cs88 o87 .i64 fun n89 => fB (iLe n84 n89) fun b90 => ifA b90 (K (AV.s (AS.bool false)) h73) (nilK p77 fun g91 o92 => fN (Nat.add o92 4) fun o93 => rowK h73 g91 fun cs94 => ldI cs94 o93 .i64 fun n95 => nilK p77 fun g96 o97 => fN (Nat.add o97 3) fun o98 => rowK h73 g96 fun cs99 => ldI cs99 o98 .i64 fun n100 => nilK p75 fun g101 o102 => fN (Nat.add o102 3) fun o103 => rowK h73 g101 fun cs104 => ldI cs104 o103 .i64 fun n105 => fI (mxA n100 n105) fun n106 => w64 (iSub n95 n106) fun n107 => fB (iLt (Int.ofNat 36) n107) fun b108 => ifA b108 (K (AV.s (AS.bool false)) h73) (nilK p75 fun g109 o110 => fN (Nat.add o110 7) fun o111 => rowK h73 g109 fun cs112 => ldM cs112 o111 fun r113 => nilK p77 fun g114 o115 => fN (Nat.add o115 0) fun o116 => rowK h73 g114 fun cs117 => ldI cs117 o116 .i64 fun n118 => nilK p77 fun g119 o120 => fN (Nat.add o120 4) fun o121 => rowK h73 g119 fun cs122 => ldI cs122 o121 .i64 fun n123 => asQ (AV.agg [AS.int .i64 n118, AS.int .i64 n123]) fun q127 => asMp (AV.s (AS.map r113)) fun g128 => mapP h73 g128 fun es124 => lkZ es124 q127 (AV.s (AS.slice AP.nil 0 (.lit 0) 1)) fun v125 b126 => asSl v125 fun p129 l129 c129 z129 => ifA b126 (K (AV.s (AS.bool false)) h73) (nilK p77 fun g130 o131 => fN (Nat.add o131 5) fun o132 => rowK h73 g130 fun cs133 => ldSl cs133 o132 fun p134 l134 c134 z134 => cl i_slices_ContainsFunc_Event [AV.s (AS.slice p134 l134 c134 z134), AV.s (AS.func i_view_View_may_1 [] [])] h73 fun r135 h136 => arB r135 fun b137 => fB (!b137) fun b138 => K (AV.s (AS.bool b138)) h136))))) fun J74 => nilK p35 fun g38 o39 => fN (Nat.add o39 3) fun o40 => rowK h31 g38 fun cs41 => ldI cs41 o40 .i64 fun n42 => fB (iLt n42 (Int.ofNat 0)) fun b43 => ifA b43 (J74 (p33, p35, true) h31) (nilK p35 fun g44 o45 => fN (Nat.add o45 3) fun o46 => rowK h31 g44 fun cs47 => ldI cs47 o46 .i64 fun n48 => nilK p35 fun g49 o50 => fN (Nat.add o50 4) fun o51 => rowK h31 g49 fun cs52 => ldI cs52 o51 .i64 fun n53 => fB (iLt n53 n48) fun b54 => ifA b54 (J74 (p33, p35, true) h31) (nilK p33 fun g55 o56 => fN (Nat.add o56 4) fun o57 => rowK h31 g55 fun cs58 => ldI cs58 o57 .i64 fun n59 => fB (!iEq n59 (Int.negSucc 0)) fun b60 => ifA b60 (nilK p35 fun g61 o62 => fN (Nat.add o62 3) fun o63 => rowK h31 g61 fun cs64 => ldI cs64 o63 .i64 fun n65 => nilK p33 fun g66 o67 => fN (Nat.add o67 4) fun o68 => rowK h31 g66 fun cs69 => ldI cs69 o68 .i64 fun n70 => fB (!iEq n65 n70) fun b71 => J74 (p33, p35, b71) h31) (J74 (p33, p35, false) h31))))) fun J32 => rowK h2 g1 fun cs3 => ldI cs3 1 .i64 fun n4 => nilK q0 fun g5 o6 => fN (Nat.add o6 0) fun o7 => rowK h2 g5 fun cs8 => ldI cs8 o7 .i64 fun n9 => fB (!iEq n4 n9) fun b10 => ifA b10 (J32 (q0, (.at g1 0), true) h2) (rowK h2 g1 fun cs11 => ldI cs11 2 .i64 fun n12 => nilK q0 fun g13 o14 => fN (Nat.add o14 1) fun o15 => rowK h2 g13 fun cs16 => ldI cs16 o15 .i64 fun n17 => fB (!iEq n12 n17) fun b18 => ifA b18 (J32 (q0, (.at g1 0), true) h2) (rowK h2 g1 fun cs19 => ldI cs19 0 .i64 fun n20 => fB (iLt n20 (Int.ofNat 0)) fun b21 => ifA b21 (J32 (q0, (.at g1 0), true) h2) (rowK h2 g1 fun cs22 => ldI cs22 0 .i64 fun n23 => nilK q0 fun g24 o25 => fN (Nat.add o25 2) fun o26 => rowK h2 g24 fun cs27 => ldI cs27 o26 .i64 fun n28 => fB (iLe n28 n23) fun b29 => J32 (q0, (.at g1 0), b29) h2)))
def R_view_View_may : Nat → RegHint := fun id => match id with
  | 1 => ⟨(.op 0 (.op 1 (.op 2 (.op 3 (.op 4 (.op 5 (.op 6 (.op 7 (.op 8 (.op 9 (.op 10 (.op 11 (.op 12 (.op 13 (.op 14 (.op 15 (.op 16 (.op 17 (.op 18 (.op 19 (.op 20 (.op 21 (.op 22 (.op 23 (.op 24 (.op 25 (.op 26 (.op 27 (.op 28 (.op 29 (.op 30 .nil))))))))))))))))))))))))))))))), 0, 0, 31, 0⟩
  | 3 => ⟨(.op 0 (.op 1 (.op 2 (.op 3 (.op 4 (.op 5 (.op 6 (.op 7 (.op 8 (.op 9 (.op 10 (.op 11 (.op 12 (.op 13 (.op 14 (.op 15 (.op 16 (.op 17 (.op 18 (.op 19 (.op 20 (.op 21 (.op 22 (.op 23 (.op 24 (.op 25 (.op 26 .nil))))))))))))))))))))))))))), 0, 0, 27, 0⟩
  | 5 => ⟨(.op 0 (.op 1 (.op 2 (.op 3 (.op 4 (.op 5 (.op 6 (.op 7 (.op 8 (.op 9 (.op 10 (.op 11 (.op 12 (.op 13 (.op 14 (.op 15 (.op 16 (.op 17 (.op 18 (.op 19 (.op 20 .nil))))))))))))))))))))), 0, 0, 21, 0⟩
  | 7 => ⟨(.op 0 (.op 1 (.op 2 (.op 3 (.op 4 (.op 5 (.op 6 (.op 7 (.op 8 (.op 9 (.op 10 (.op 11 (.op 12 (.op 13 (.op 14 .nil))))))))))))))), 0, 0, 15, 0⟩
  | _ => ⟨.nil, 0, 0, 0, 0⟩
def J_view_View_may : Option Nat → Option LoopA := fun id => match id with
  | some 2 => some ⟨AP × AP × Bool, (.pair (EncA.ptr 0) (.pair (EncA.ptr 3) (EncA.bool 7)))⟩
  | some 4 => some ⟨AP × AP × Bool, (.pair (EncA.ptr 0) (.pair (EncA.ptr 3) (EncA.bool 38)))⟩
  | _ => none
theorem E_view_View_may (lf : Nat) (cl : Cl) : PK.Eq [.ptr, .agg] (evFn PG cl noL R_view_View_may J_view_View_may lf Tryz.f37) (B_view_View_may lf cl) := by intro q0 q1 H K; kernel_rfl
theorem O_view_View_may (lf : Nat) (w0 : World) : OkB PG w0 i_view_View_may (PK.run [.ptr, .agg] (B_view_View_may lf)) := okb mix (fn := Tryz.f37) rfl (E_view_View_may lf)

/-- (*vedette/view.View).folds -/
def B_view_View_folds (lf : Nat) (cl : Cl) (q0 : AP) (q1p : AP) (q1n : Nat) (q1c : ACap) (q1z : Nat) (H : AH) (K : AV → AH → Bool) : Bool :=
  nilK q0 fun g1 o2 => fN (Nat.add o2 5) fun o3 => rowK H g1 fun cs4 => ldSl cs4 o3 fun p5 l5 c5 z5 => cl i_event_Fold [AV.s (AS.slice p5 l5 c5 z5), AV.s (AS.slice q1p q1n q1c q1z)] H fun r6 h7 => tup2 r6 fun x8 x9 => asSl x8 fun p10 l10 c10 z10 => arB x9 fun b11 => fB (!b11) fun b12 => ifA b12 (K (AV.tup []) h7) (nilK q0 fun g13 o14 => fN (Nat.add o14 5) fun o15 => sto1 h7 g13 o15 (AS.slice p10 l10 c10 z10) fun h16 => nilK q0 fun g17 o18 => fN (Nat.add o18 6) fun o19 => rowK h16 g17 fun cs20 => ldSl cs20 o19 fun p21 l21 c21 z21 => elK h16 q1p q1n 25 fun ys22 => appA h16 p21 l21 z21 25 264 ys22 q1n c21 fun p24 l24 c24 z24 h23 => nilK q0 fun g25 o26 => fN (Nat.add o26 6) fun o27 => sto1 h23 g25 o27 (AS.slice p24 l24 c24 z24) fun h28 => K (AV.tup []) h28)
theorem E_view_View_folds (lf : Nat) (cl : Cl) : PK.Eq [.ptr, .slice] (evFn PG cl noL noR noJ lf Tryz.f39) (B_view_View_folds lf cl) := by intro q0 q1p q1n q1c q1z H K; kernel_rfl
theorem O_view_View_folds (lf : Nat) (w0 : World) : OkB PG w0 i_view_View_folds (PK.run [.ptr, .slice] (B_view_View_folds lf)) := okb mix (fn := Tryz.f39) rfl (E_view_View_folds lf)

/-- (*vedette/view.View).may$1 -/
def B_view_View_may_1 (lf : Nat) (cl : Cl) (q0 : List AS) (H : AH) (K : AV → AH → Bool) : Bool :=
  newK H (.row q0) fun g1 h2 => rowK h2 g1 fun cs3 => ldG cs3 0 25 fun cs4 => cl i_event_Is [AV.agg cs4] h2 fun r5 h6 => arB r5 fun b7 => fB (!b7) fun b8 => K (AV.s (AS.bool b8)) h6
theorem E_view_View_may_1 (lf : Nat) (cl : Cl) : PK.Eq [.agg] (evFn PG cl noL noR noJ lf Tryz.f96) (B_view_View_may_1 lf cl) := by intro q0 H K; kernel_rfl
theorem O_view_View_may_1 (lf : Nat) (w0 : World) : OkB PG w0 i_view_View_may_1 (PK.run [.agg] (B_view_View_may_1 lf)) := okb mix (fn := Tryz.f96) rfl (E_view_View_may_1 lf)

end
end Go.Proofs
end
section
namespace Go.Proofs
open Go Go.Vw Go.Vw.Ev
set_option maxRecDepth 100000
set_option maxHeartbeats 4000000
set_option linter.unusedVariables false
noncomputable section
/-- vedette/judge.Right -/
def B_judge_Right (lf : Nat) (cl : Cl) (q0p : AP) (q0n : Nat) (q0c : ACap) (q0z : Nat) (q1 : Int) (q2 : Int) (q3 : AP) (H : AH) (K : AV → AH → Bool) : Bool :=
  cl i_view_View_Beat [AV.s (AS.ptr q3)] H fun r1 h2 => arI r1 .i64 fun n3 => fB (iLt n3 (Int.ofNat 0)) fun b4 => ifA b4 (cl i_view_View_Things [AV.s (AS.ptr q3)] h2 fun r5 h6 => asSl r5 fun p7 l7 c7 z7 => fB (iEq (Int.ofNat l7) (Int.ofNat 0)) fun b8 => K (AV.s (AS.bool b8)) h6) (cl i_view_View_Beat [AV.s (AS.ptr q3)] h2 fun r9 h10 => arI r9 .i64 fun n11 => cl i_judge_Rect [AV.s (AS.slice q0p q0n q0c q0z), AV.s (AS.int .i64 q1), AV.s (AS.int .i64 q2), AV.s (AS.int .i64 n11)] h10 fun r12 h13 => tup2 r12 fun x14 x15 => asG x14 fun cs16 => arB x15 fun b17 => newK h13 (.row [AS.int .i64 (Int.ofNat 0), AS.int .i64 (Int.ofNat 0), AS.int .i64 (Int.ofNat 0), AS.int .i64 (Int.ofNat 0)]) fun g18 h19 => stoN h19 g18 0 4 cs16 fun h20 => ifA b17 (getK h20 g18 fun k21 => rowK h20 g18 fun cs22 => ldG cs22 0 4 fun cs23 => cl i_view_View_Things [AV.s (AS.ptr q3)] h20 fun r24 h25 => okK (kSame ((g18, k21) :: []) h25) (asSl r24 fun p26 l26 c26 z26 => cl i_view_View_Beat [AV.s (AS.ptr q3)] h25 fun r27 h28 => okK (kSame ((g18, k21) :: []) h28) (arI r27 .i64 fun n29 => cl i_judge_World [AV.s (AS.slice q0p q0n q0c q0z), AV.s (AS.int .i64 n29)] h28 fun r30 h31 => okK (kSame ((g18, k21) :: []) h31) (asSl r30 fun p32 l32 c32 z32 => cl i_diff_Seen [AV.s (AS.slice p32 l32 c32 z32), AV.agg cs23] h31 fun r33 h34 => asSl r33 fun p35 l35 c35 z35 => cl i_slices_EqualFunc_Thing_Thing [AV.s (AS.slice p26 l26 c26 z26), AV.s (AS.slice p35 l35 c35 z35), AV.s (AS.func i_thing_Same [] [])] h34 fun r36 h37 => arB r36 fun b38 => K (AV.s (AS.bool b38)) h37)))) (K (AV.s (AS.bool false)) h20))
def R_judge_Right : Nat → RegHint := fun id => match id with
  | 4 => ⟨(.op 0 (.op 1 (.op 2 (.op 4 (.op 5 (.op 8 (.op 3 (.op 6 (.op 7 (.op 9 (.op 10 (.op 11 (.op 12 .nil))))))))))))), 200, 256, 6, 0⟩
  | _ => ⟨.nil, 0, 0, 0, 0⟩
theorem E_judge_Right (lf : Nat) (cl : Cl) : PK.Eq [.slice, .int .i64, .int .i64, .ptr] (evFn PG cl noL R_judge_Right noJ lf Tryz.f13) (B_judge_Right lf cl) := by intro q0p q0n q0c q0z q1 q2 q3 H K; kernel_rfl
theorem O_judge_Right (lf : Nat) (w0 : World) : OkB PG w0 i_judge_Right (PK.run [.slice, .int .i64, .int .i64, .ptr] (B_judge_Right lf)) := okb mix (fn := Tryz.f13) rfl (E_judge_Right lf)

/-- vedette/judge.Rect -/
def B_judge_Rect (lf : Nat) (cl : Cl) (q0p : AP) (q0n : Nat) (q0c : ACap) (q0z : Nat) (q1 : Int) (q2 : Int) (q3 : Int) (H : AH) (K : AV → AH → Bool) : Bool :=
  newK H (.row [AS.int .i64 (Int.ofNat 0), AS.int .i64 (Int.ofNat 0), AS.int .i64 (Int.ofNat 0), AS.int .i64 (Int.ofNat 0)]) fun g1 h2 => cl i_watch_New [] h2 fun r3 h4 => asP r3 fun p5 => (loopX lf (fun (self8 : (Int × Int × Int × AP × AP × (AP × Nat × ACap × Nat) × Int × Int) → AH → Bool) (x6 : Int × Int × Int × AP × AP × (AP × Nat × ACap × Nat) × Int × Int) (h7 : AH) => pR x6 fun n9 r10 => pR r10 fun n11 r12 => pR r12 fun n13 r14 => pR r14 fun p15 r16 => pR r16 fun p17 r18 => pR r18 fun u19 r19 => pR u19 fun p19 r19a => pR r19a fun l19 r19b => pR r19b fun c19 z19 => pR r19 fun n20 r21 => fB (iLt r21 n20) fun b23 => ifA b23 (nilK p19 fun g24 o25 => idxK r21 l19 fun m26 => fN (Nat.add o25 (Nat.mul m26 25)) fun o27 => rowK h7 g24 fun cs28 => ldG cs28 o27 25 fun cs29 => newK h7 (.row [AS.int .i64 (Int.ofNat 0), AS.int .i64 (Int.ofNat 0), AS.int .i64 (Int.ofNat 0), AS.int .i64 (Int.ofNat 0), AS.int .i64 (Int.ofNat 0), AS.int .i64 (Int.ofNat 0), AS.int .i64 (Int.ofNat 0), AS.int .i64 (Int.ofNat 0), AS.int .i64 (Int.ofNat 0), AS.int .i64 (Int.ofNat 0), AS.str [], AS.int .i64 (Int.ofNat 0), AS.str [], AS.int .i64 (Int.ofNat 0), AS.str [], AS.int .i64 (Int.ofNat 0), AS.str [], AS.int .i64 (Int.ofNat 0), AS.str [], AS.int .i64 (Int.ofNat 0), AS.int .i64 (Int.ofNat 0), AS.int .i64 (Int.ofNat 0), AS.int .i64 (Int.ofNat 0), AS.int .i64 (Int.ofNat 0), AS.int .i64 (Int.ofNat 0)]) fun g30 h31 => stoN h31 g30 0 25 cs29 fun h32 => joinX (fun (x41 : Int × Int × Int × AP × AP × AP × (AP × Nat × ACap × Nat) × Int × Int × Bool) (h42 : AH) => pR x41 fun n44 r45 => pR r45 fun n46 r47 => pR r47 fun n48 r49 => pR r49 fun p50 r51 => pR r51 fun p52 r53 => pR r53 fun p54 r55 => pR r55 fun u56 r56 => pR u56 fun p56 r56a => pR r56a fun l56 r56b => pR r56b fun c56 z56 => pR r56 fun n57 r58 => pR r58 fun n59 r60 => ifA r60 (nilK p54 fun g62 o63 => fN (Nat.add o63 3) fun o64 => rowK h42 g62 fun cs65 => ldG cs65 o64 22 fun cs66 => nilK p54 fun g67 o68 => fN (Nat.add o68 0) fun o69 => rowK h42 g67 fun cs70 => ldI cs70 o69 .i64 fun n71 => w64 (iAdd n71 (Int.ofNat 1)) fun n72 => cl i_watch_Book_Do [AV.s (AS.ptr p52), AV.agg cs66, AV.s (AS.int .i64 n72)] h42 fun r73 h74 => arI r73 .i64 fun n75 => w64 (iAdd n59 (Int.ofNat 1)) fun n76 => self8 (n44, n46, n48, p50, p52, (p56, l56, c56, z56), n57, n76) h74) (w64 (iAdd n59 (Int.ofNat 1)) fun n77 => self8 (n44, n46, n48, p50, p52, (p56, l56, c56, z56), n57, n77) h42)) fun J43 => rowK h32 g30 fun cs33 => ldI cs33 0 .i64 fun n34 => fB (iLt n34 n13) fun b35 => ifA b35 (rowK h32 g30 fun cs36 => ldG cs36 3 22 fun cs37 => cl i_judge_watches [AV.agg cs37] h32 fun r38 h39 => arB r38 fun b40 => J43 (n9, n11, n13, p15, p17, (.at g30 0), (p19, l19, c19, z19), n20, r21, b40) h39) (J43 (n9, n11, n13, p15, p17, (.at g30 0), (p19, l19, c19, z19), n20, r21, false) h32)) (cl i_watch_Book_Of [AV.s (AS.ptr p17), AV.s (AS.int .i64 n9)] h7 fun r78 h79 => asG r78 fun cs80 => newK h79 (.row [AS.bool false, AS.int .i64 (Int.ofNat 0), AS.int .i64 (Int.ofNat 0), AS.int .i64 (Int.ofNat 0), AS.int .i64 (Int.ofNat 0), AS.int .i64 (Int.ofNat 0), AS.int .i64 (Int.ofNat 0)]) fun g81 h82 => stoN h82 g81 0 7 cs80 fun h83 => rowK h83 g81 fun cs84 => ldB cs84 0 fun b85 => fB (!b85) fun b86 => ifA b86 (nilK p15 fun g90 o91 => stoN h83 g90 o91 4 [AS.int .i64 (Int.ofNat 0), AS.int .i64 (Int.ofNat 0), AS.int .i64 (Int.ofNat 0), AS.int .i64 (Int.ofNat 0)] fun h92 => nilK p15 fun g94 o95 => rowK h92 g94 fun cs93 => ldG cs93 o95 4 fun cs96 => K (AV.tup [AV.agg cs96, AV.s (AS.bool false)]) h92) (rowK h83 g81 fun cs87 => ldI cs87 1 .i64 fun n88 => fB (!iEq n88 n11) fun b89 => ifA b89 (nilK p15 fun g97 o98 => stoN h83 g97 o98 4 [AS.int .i64 (Int.ofNat 0), AS.int .i64 (Int.ofNat 0), AS.int .i64 (Int.ofNat 0), AS.int .i64 (Int.ofNat 0)] fun h99 => nilK p15 fun g101 o102 => rowK h99 g101 fun cs100 => ldG cs100 o102 4 fun cs103 => K (AV.tup [AV.agg cs103, AV.s (AS.bool false)]) h99) (rowK h83 g81 fun cs104 => ldG cs104 3 4 fun cs105 => nilK p15 fun g106 o107 => stoN h83 g106 o107 4 cs105 fun h108 => nilK p15 fun g110 o111 => rowK h108 g110 fun cs109 => ldG cs109 o111 4 fun cs112 => K (AV.tup [AV.agg cs112, AV.s (AS.bool true)]) h108)))) (q1, q2, q3, (.at g1 0), p5, (q0p, q0n, q0c, q0z), (Int.ofNat q0n), (Int.ofNat 0)) h4)
def L_judge_Rect : Nat → LoopA := fun id => match id with
  | 3 => ⟨Int × Int × Int × AP × AP × (AP × Nat × ACap × Nat) × Int × Int, (.pair (EncA.int .i64 1) (.pair (EncA.int .i64 2) (.pair (EncA.int .i64 3) (.pair (EncA.ptr 8) (.pair (EncA.ptr 10) (.pair (EncA.slice 15) (.pair (EncA.int .i64 16) (EncA.int .i64 17))))))))⟩
  | _ => noA
def J_judge_Rect : Option Nat → Option LoopA := fun id => match id with
  | some 6 => some ⟨Int × Int × Int × AP × AP × AP × (AP × Nat × ACap × Nat) × Int × Int × Bool, (.pair (EncA.int .i64 1) (.pair (EncA.int .i64 2) (.pair (EncA.int .i64 3) (.pair (EncA.ptr 8) (.pair (EncA.ptr 10) (.pair (EncA.ptr 12) (.pair (EncA.slice 15) (.pair (EncA.int .i64 16) (.pair (EncA.int .i64 17) (EncA.bool 29))))))))))⟩
  | _ => none
theorem E_judge_Rect (lf : Nat) (cl : Cl) : PK.Eq [.slice, .int .i64, .int .i64, .int .i64] (evFn PG cl L_judge_Rect noR J_judge_Rect lf Tryz.f17) (B_judge_Rect lf cl) := by intro q0p q0n q0c q0z q1 q2 q3 H K; kernel_rfl
theorem O_judge_Rect (lf : Nat) (w0 : World) : OkB PG w0 i_judge_Rect (PK.run [.slice, .int .i64, .int .i64, .int .i64] (B_judge_Rect lf)) := okb mix (fn := Tryz.f17) rfl (E_judge_Rect lf)

/-- vedette/judge.World -/
def B_judge_World (lf : Nat) (cl : Cl) (q0p : AP) (q0n : Nat) (q0c : ACap) (q0z : Nat) (q1 : Int) (H : AH) (K : AV → AH → Bool) : Bool :=
  (loopX lf (fun (self3 : (Int × (AP × Nat × ACap × Nat) × (AP × Nat × ACap × Nat) × (AP × Nat × ACap × Nat) × Int × Int) → AH → Bool) (x1 : Int × (AP × Nat × ACap × Nat) × (AP × Nat × ACap × Nat) × (AP × Nat × ACap × Nat) × Int × Int) (h2 : AH) => pR x1 fun n4 r5 => pR r5 fun u6 r6 => pR u6 fun p6 r6a => pR r6a fun l6 r6b => pR r6b fun c6 z6 => pR r6 fun u7 r7 => pR u7 fun p7 r7a => pR r7a fun l7 r7b => pR r7b fun c7 z7 => pR r7 fun u8 r8 => pR u8 fun p8 r8a => pR r8a fun l8 r8b => pR r8b fun c8 z8 => pR r8 fun n9 r10 => fB (iLt r10 n9) fun b12 => ifA b12 (nilK p8 fun g13 o14 => idxK r10 l8 fun m15 => fN (Nat.add o14 (Nat.mul m15 25)) fun o16 => rowK h2 g13 fun cs17 => ldG cs17 o16 25 fun cs18 => newK h2 (.row [AS.int .i64 (Int.ofNat 0), AS.int .i64 (Int.ofNat 0), AS.int .i64 (Int.ofNat 0), AS.int .i64 (Int.ofNat 0), AS.int .i64 (Int.ofNat 0), AS.int .i64 (Int.ofNat 0), AS.int .i64 (Int.ofNat 0), AS.int .i64 (Int.ofNat 0), AS.int .i64 (Int.ofNat 0), AS.int .i64 (Int.ofNat 0), AS.str [], AS.int .i64 (Int.ofNat 0), AS.str [], AS.int .i64 (Int.ofNat 0), AS.str [], AS.int .i64 (Int.ofNat 0), AS.str [], AS.int .i64 (Int.ofNat 0), AS.str [], AS.int .i64 (Int.ofNat 0), AS.int .i64 (Int.ofNat 0), AS.int .i64 (Int.ofNat 0), AS.int .i64 (Int.ofNat 0), AS.int .i64 (Int.ofNat 0), AS.int .i64 (Int.ofNat 0)]) fun g19 h20 => stoN h20 g19 0 25 cs18 fun h21 => rowK h21 g19 fun cs22 => ldI cs22 0 .i64 fun n23 => fB (iLt n4 n23) fun b24 => ifA b24 (w64 (iAdd r10 (Int.ofNat 1)) fun n48 => self3 (n4, (p6, l6, c6, z6), (p7, l7, c7, z7), (p8, l8, c8, z8), n9, n48) h21) (rowK h21 g19 fun cs25 => ldG cs25 3 22 fun cs26 => cl i_judge_watches [AV.agg cs26] h21 fun r27 h28 => arB r27 fun b29 => ifA b29 (w64 (iAdd r10 (Int.ofNat 1)) fun n49 => self3 (n4, (p6, l6, c6, z6), (p7, l7, c7, z7), (p8, l8, c8, z8), n9, n49) h28) (rowK h28 g19 fun cs30 => ldI cs30 3 .i64 fun n31 => fB (iEq n31 (Int.ofNat 5)) fun b32 => ifA b32 (w64 (iAdd r10 (Int.ofNat 1)) fun n50 => self3 (n4, (p6, l6, c6, z6), (p7, l7, c7, z7), (p8, l8, c8, z8), n9, n50) h28) (rowK h28 g19 fun cs33 => ldG cs33 3 22 fun cs34 => okK (Nat.beq (ln cs34) 22) (fL (ap (α := AS) cs34 []) fun cs35 => okK (Nat.beq (ln cs35) (1 * 22)) (newK h28 (.row cs35) fun g36 h37 => elK h37 (.at g36 0) 1 22 fun ys38 => appA h37 p6 l6 z6 22 216 ys38 1 c6 fun p40 l40 c40 z40 h39 => rowK h39 g19 fun cs41 => ldI cs41 2 .i64 fun n42 => newK h39 (.row [AS.int .i64 n42]) fun g43 h44 => elK h44 (.at g43 0) 1 1 fun ys45 => appA h44 p7 l7 z7 1 8 ys45 1 c7 fun p47 l47 c47 z47 h46 => w64 (iAdd r10 (Int.ofNat 1)) fun n51 => self3 (n4, (p40, l40, c40, z40), (p47, l47, c47, z47), (p8, l8, c8, z8), n9, n51) h46)))))) (cl i_world_Of [AV.s (AS.slice p6 l6 c6 z6), AV.s (AS.slice p7 l7 c7 z7)] h2 fun r52 h53 => asP r52 fun p54 => cl i_world_World_All [AV.s (AS.ptr p54)] h53 fun r55 h56 => asSl r55 fun p57 l57 c57 z57 => K (AV.s (AS.slice p57 l57 c57 z57)) h56)) (q1, (AP.nil, 0, (.lit 0), 1), (AP.nil, 0, (.lit 0), 1), (q0p, q0n, q0c, q0z), (Int.ofNat q0n), (Int.ofNat 0)) H)
def L_judge_World : Nat → LoopA := fun id => match id with
  | 4 => ⟨Int × (AP × Nat × ACap × Nat) × (AP × Nat × ACap × Nat) × (AP × Nat × ACap × Nat) × Int × Int, (.pair (EncA.int .i64 1) (.pair (EncA.slice 5) (.pair (EncA.slice 6) (.pair (EncA.slice 9) (.pair (EncA.int .i64 10) (EncA.int .i64 11))))))⟩
  | _ => noA
theorem E_judge_World (lf : Nat) (cl : Cl) : PK.Eq [.slice, .int .i64] (evFn PG cl L_judge_World noR noJ lf Tryz.f18) (B_judge_World lf cl) := by intro q0p q0n q0c q0z q1 H K; kernel_rfl
theorem O_judge_World (lf : Nat) (w0 : World) : OkB PG w0 i_judge_World (PK.run [.slice, .int .i64] (B_judge_World lf)) := okb mix (fn := Tryz.f18) rfl (E_judge_World lf)

/-- vedette/judge.Order -/
def B_judge_Order (lf : Nat) (cl : Cl) (q0p : AP) (q0n : Nat) (q0c : ACap) (q0z : Nat) (H : AH) (K : AV → AH → Bool) : Bool :=
  (loopX lf (fun (self3 : ((AP × Nat × ACap × Nat) × (AP × Nat × ACap × Nat) × Int × Int) → AH → Bool) (x1 : (AP × Nat × ACap × Nat) × (AP × Nat × ACap × Nat) × Int × Int) (h2 : AH) => pR x1 fun u4 r4 => pR u4 fun p4 r4a => pR r4a fun l4 r4b => pR r4b fun c4 z4 => pR r4 fun u5 r5 => pR u5 fun p5 r5a => pR r5a fun l5 r5b => pR r5b fun c5 z5 => pR r5 fun n6 r7 => fB (iLt r7 n6) fun b9 => ifA b9 (nilK p5 fun g10 o11 => idxK r7 l5 fun m12 => fN (Nat.add o11 (Nat.mul m12 1)) fun o13 => rowK h2 g10 fun cs14 => ldP cs14 o13 fun p15 => cl i_region_Region_Order [AV.s (AS.ptr p15)] h2 fun r16 h17 => asSl r16 fun p18 l18 c18 z18 => elK h17 p18 l18 25 fun ys19 => appA h17 p4 l4 z4 25 240 ys19 l18 c4 fun p21 l21 c21 z21 h20 => w64 (iAdd r7 (Int.ofNat 1)) fun n22 => self3 ((p21, l21, c21, z21), (p5, l5, c5, z5), n6, n22) h20) (cl i_slices_SortStableFunc_Taken [AV.s (AS.slice p4 l4 c4 z4), AV.s (AS.func i_judge_Order_1 [] [])] h2 fun r23 h24 => tup0 r23 (K (AV.s (AS.slice p4 l4 c4 z4)) h24))) ((AP.nil, 0, (.lit 0), 1), (q0p, q0n, q0c, q0z), (Int.ofNat q0n), (Int.ofNat 0)) H)
def L_judge_Order : Nat → LoopA := fun id => match id with
  | 3 => ⟨(AP × Nat × ACap × Nat) × (AP × Nat × ACap × Nat) × Int × Int, (.pair (EncA.slice 3) (.pair (EncA.slice 6) (.pair (EncA.int .i64 7) (EncA.int .i64 8))))⟩
  | _ => noA
theorem E_judge_Order (lf : Nat) (cl : Cl) : PK.Eq [.slice] (evFn PG cl L_judge_Order noR noJ lf Tryz.f26) (B_judge_Order lf cl) := by intro q0p q0n q0c q0z H K; kernel_rfl
theorem O_judge_Order (lf : Nat) (w0 : World) : OkB PG w0 i_judge_Order (PK.run [.slice] (B_judge_Order lf)) := okb mix (fn := Tryz.f26) rfl (E_judge_Order lf)

/-- vedette/judge.watches -/
def B_judge_watches (lf : Nat) (cl : Cl) (q0 : List AS) (H : AH) (K : AV → AH → Bool) : Bool :=
  newK H (.row q0) fun g1 h2 => rowK h2 g1 fun cs3 => ldI cs3 0 .i64 fun n4 => fB (iLe (Int.ofNat 6) n4) fun b5 => ifA b5 (rowK h2 g1 fun cs6 => ldI cs6 0 .i64 fun n7 => fB (iLe n7 (Int.ofNat 8)) fun b8 => K (AV.s (AS.bool b8)) h2) (K (AV.s (AS.bool false)) h2)
theorem E_judge_watches (lf : Nat) (cl : Cl) : PK.Eq [.agg] (evFn PG cl noL noR noJ lf Tryz.f46) (B_judge_watches lf cl) := by intro q0 H K; kernel_rfl
theorem O_judge_watches (lf : Nat) (w0 : World) : OkB PG w0 i_judge_watches (PK.run [.agg] (B_judge_watches lf)) := okb mix (fn := Tryz.f46) rfl (E_judge_watches lf)

/-- vedette/judge.Order$1 -/
def B_judge_Order_1 (lf : Nat) (cl : Cl) (q0 : List AS) (q1 : List AS) (H : AH) (K : AV → AH → Bool) : Bool :=
  newK H (.row q0) fun g1 h2 => newK h2 (.row q1) fun g3 h4 => rowK h4 g1 fun cs5 => ldI cs5 0 .i64 fun n6 => rowK h4 g3 fun cs7 => ldI cs7 0 .i64 fun n8 => getK h4 g1 fun k9 => rowK h4 g1 fun cs10 => ldI cs10 1 .i64 fun n11 => getK h4 g3 fun k12 => rowK h4 g3 fun cs13 => ldI cs13 1 .i64 fun n14 => cl i_cmp_Compare_int [AV.s (AS.int .i64 n6), AV.s (AS.int .i64 n8)] h4 fun r15 h16 => okK (kSame ((g3, k12) :: ((g1, k9) :: [])) h16) (arI r15 .i64 fun n17 => cl i_cmp_Compare_int [AV.s (AS.int .i64 n11), AV.s (AS.int .i64 n14)] h16 fun r18 h19 => arI r18 .i64 fun n20 => newK h19 (.row [AS.int .i64 n17, AS.int .i64 n20]) fun g21 h22 => cl i_cmp_Or_int [AV.s (AS.slice (.at g21 0) 2 (.lit 2) 1)] h22 fun r23 h24 => arI r23 .i64 fun n25 => K (AV.s (AS.int .i64 n25)) h24)
def R_judge_Order_1 : Nat → RegHint := fun id => match id with
  | 1 => ⟨(.op 0 (.op 1 (.op 2 (.op 3 (.op 5 (.op 6 (.op 7 (.op 8 (.op 4 (.op 9 (.op 10 (.op 11 (.op 12 .nil))))))))))))), 16, 320, 8, 0⟩
  | _ => ⟨.nil, 0, 0, 0, 0⟩
theorem E_judge_Order_1 (lf : Nat) (cl : Cl) : PK.Eq [.agg, .agg] (evFn PG cl noL R_judge_Order_1 noJ lf Tryz.f79) (B_judge_Order_1 lf cl) := by intro q0 q1 H K; kernel_rfl
theorem O_judge_Order_1 (lf : Nat) (w0 : World) : OkB PG w0 i_judge_Order_1 (PK.run [.agg, .agg] (B_judge_Order_1 lf)) := okb mix (fn := Tryz.f79) rfl (E_judge_Order_1 lf)

end
end Go.Proofs
end
section
namespace Go.Proofs
open Go Go.Vw Go.Vw.Ev
set_option maxRecDepth 100000
set_option maxHeartbeats 4000000
set_option linter.unusedVariables false
noncomputable section
/-- vedette/world.Of -/
def B_world_Of (lf : Nat) (cl : Cl) (q0p : AP) (q0n : Nat) (q0c : ACap) (q0z : Nat) (q1p : AP) (q1n : Nat) (q1c : ACap) (q1z : Nat) (H : AH) (K : AV → AH → Bool) : Bool :=
  cl i_world_New [] H fun r1 h2 => asP r1 fun p3 => (loopX lf (fun (self6 : ((AP × Nat × ACap × Nat) × AP × (AP × Nat × ACap × Nat) × Int × Int) → AH → Bool) (x4 : (AP × Nat × ACap × Nat) × AP × (AP × Nat × ACap × Nat) × Int × Int) (h5 : AH) => pR x4 fun u7 r7 => pR u7 fun p7 r7a => pR r7a fun l7 r7b => pR r7b fun c7 z7 => pR r7 fun p8 r9 => pR r9 fun u10 r10 => pR u10 fun p10 r10a => pR r10a fun l10 r10b => pR r10b fun c10 z10 => pR r10 fun n11 r12 => fB (iLt r12 n11) fun b14 => ifA b14 (nilK p10 fun g15 o16 => idxK r12 l10 fun m17 => fN (Nat.add o16 (Nat.mul m17 22)) fun o18 => rowK h5 g15 fun cs19 => ldG cs19 o18 22 fun cs20 => newK h5 (.row [AS.int .i64 (Int.ofNat 0), AS.int .i64 (Int.ofNat 0), AS.int .i64 (Int.ofNat 0), AS.int .i64 (Int.ofNat 0), AS.int .i64 (Int.ofNat 0), AS.int .i64 (Int.ofNat 0), AS.int .i64 (Int.ofNat 0), AS.str [], AS.int .i64 (Int.ofNat 0), AS.str [], AS.int .i64 (Int.ofNat 0), AS.str [], AS.int .i64 (Int.ofNat 0), AS.str [], AS.int .i64 (Int.ofNat 0), AS.str [], AS.int .i64 (Int.ofNat 0), AS.int .i64 (Int.ofNat 0), AS.int .i64 (Int.ofNat 0), AS.int .i64 (Int.ofNat 0), AS.int .i64 (Int.ofNat 0), AS.int .i64 (Int.ofNat 0)]) fun g21 h22 => stoN h22 g21 0 22 cs20 fun h23 => joinX (fun (x31 : (AP × Nat × ACap × Nat) × AP × AP × Int × (AP × Nat × ACap × Nat) × Int × Int) (h32 : AH) => pR x31 fun u34 r34 => pR u34 fun p34 r34a => pR r34a fun l34 r34b => pR r34b fun c34 z34 => pR r34 fun p35 r36 => pR r36 fun p37 r38 => pR r38 fun n39 r40 => pR r40 fun u41 r41 => pR u41 fun p41 r41a => pR r41a fun l41 r41b => pR r41b fun c41 z41 => pR r41 fun n42 r43 => nilK p37 fun g45 o46 => rowK h32 g45 fun cs47 => ldG cs47 o46 22 fun cs48 => cl i_world_World_Do [AV.s (AS.ptr p35), AV.agg cs48, AV.s (AS.int .i64 n39)] h32 fun r49 h50 => tup2 r49 fun x51 x52 => arI x51 .i64 fun n53 => arI x52 .i64 fun n54 => w64 (iAdd r43 (Int.ofNat 1)) fun n55 => self6 ((p34, l34, c34, z34), p35, (p41, l41, c41, z41), n42, n55) h50) fun J33 => fB (iLt r12 (Int.ofNat l7)) fun b24 => ifA b24 (nilK p7 fun g25 o26 => idxK r12 l7 fun m27 => fN (Nat.add o26 (Nat.mul m27 1)) fun o28 => rowK h23 g25 fun cs29 => ldI cs29 o28 .i64 fun n30 => J33 ((p7, l7, c7, z7), p8, (.at g21 0), n30, (p10, l10, c10, z10), n11, r12) h23) (J33 ((p7, l7, c7, z7), p8, (.at g21 0), (Int.ofNat 0), (p10, l10, c10, z10), n11, r12) h23)) (K (AV.s (AS.ptr p8)) h5)) ((q1p, q1n, q1c, q1z), p3, (q0p, q0n, q0c, q0z), (Int.ofNat q0n), (Int.ofNat 0)) h2)
def L_world_Of : Nat → LoopA := fun id => match id with
  | 3 => ⟨(AP × Nat × ACap × Nat) × AP × (AP × Nat × ACap × Nat) × Int × Int, (.pair (EncA.slice 1) (.pair (EncA.ptr 5) (.pair (EncA.slice 10) (.pair (EncA.int .i64 11) (EncA.int .i64 12)))))⟩
  | _ => noA
def J_world_Of : Option Nat → Option LoopA := fun id => match id with
  | some 8 => some ⟨(AP × Nat × ACap × Nat) × AP × AP × Int × (AP × Nat × ACap × Nat) × Int × Int, (.pair (EncA.slice 1) (.pair (EncA.ptr 5) (.pair (EncA.ptr 7) (.pair (EncA.int .i64 8) (.pair (EncA.slice 10) (.pair (EncA.int .i64 11) (EncA.int .i64 12)))))))⟩
  | _ => none
theorem E_world_Of (lf : Nat) (cl : Cl) : PK.Eq [.slice, .slice] (evFn PG cl L_world_Of noR J_world_Of lf Tryz.f49) (B_world_Of lf cl) := by intro q0p q0n q0c q0z q1p q1n q1c q1z H K; kernel_rfl
theorem O_world_Of (lf : Nat) (w0 : World) : OkB PG w0 i_world_Of (PK.run [.slice, .slice] (B_world_Of lf)) := okb mix (fn := Tryz.f49) rfl (E_world_Of lf)

/-- (*vedette/world.World).All -/
def B_world_World_All (lf : Nat) (cl : Cl) (q0 : AP) (H : AH) (K : AV → AH → Bool) : Bool :=
  nilK q0 fun g1 o2 => fN (Nat.add o2 0) fun o3 => rowK H g1 fun cs4 => ldP cs4 o3 fun p5 => cl i_table_Table_All [AV.s (AS.ptr p5)] H fun r6 h7 => asSl r6 fun p8 l8 c8 z8 => K (AV.s (AS.slice p8 l8 c8 z8)) h7
theorem E_world_World_All (lf : Nat) (cl : Cl) : PK.Eq [.ptr] (evFn PG cl noL noR noJ lf Tryz.f50) (B_world_World_All lf cl) := by intro q0 H K; kernel_rfl
theorem O_world_World_All (lf : Nat) (w0 : World) : OkB PG w0 i_world_World_All (PK.run [.ptr] (B_world_World_All lf)) := okb mix (fn := Tryz.f50) rfl (E_world_World_All lf)

/-- vedette/world.New -/
def B_world_New (lf : Nat) (cl : Cl)  (H : AH) (K : AV → AH → Bool) : Bool :=
  cl i_table_New [] H fun r1 h2 => asP r1 fun p3 => newK h2 (.row [AS.ptr p3]) fun g4 h5 => K (AV.s (AS.ptr (.at g4 0))) h5
theorem E_world_New (lf : Nat) (cl : Cl) : PK.Eq [] (evFn PG cl noL noR noJ lf Tryz.f102) (B_world_New lf cl) := by intro  H K; kernel_rfl
theorem O_world_New (lf : Nat) (w0 : World) : OkB PG w0 i_world_New (PK.run [] (B_world_New lf)) := okb mix (fn := Tryz.f102) rfl (E_world_New lf)

/-- (*vedette/world.World).Do -/
def B_world_World_Do (lf : Nat) (cl : Cl) (q0 : AP) (q1 : List AS) (q2 : Int) (H : AH) (K : AV → AH → Bool) : Bool :=
  newK H (.row q1) fun g1 h2 => nilK q0 fun g3 o4 => fN (Nat.add o4 0) fun o5 => rowK h2 g3 fun cs6 => ldP cs6 o5 fun p7 => rowK h2 g1 fun cs8 => ldG cs8 0 22 fun cs9 => cl i_act_Check [AV.s (AS.ptr p7), AV.agg cs9] h2 fun r10 h11 => arI r10 .i64 fun n12 => joinX (fun (x25 : AP × Int × AP × Int × Bool) (h26 : AH) => pR x25 fun p28 r29 => pR r29 fun n30 r31 => pR r31 fun p32 r33 => pR r33 fun n34 r35 => joinX (fun (x40 : AP × Int × AP) (h41 : AH) => pR x40 fun p43 r44 => pR r44 fun n45 r46 => nilK p43 fun g48 o49 => fN (Nat.add o49 0) fun o50 => rowK h41 g48 fun cs51 => ldP cs51 o50 fun p52 => nilK r46 fun g53 o54 => rowK h41 g53 fun cs55 => ldG cs55 o54 22 fun cs56 => cl i_act_Done [AV.s (AS.ptr p52), AV.agg cs56, AV.s (AS.int .i64 n45)] h41 fun r57 h58 => tup2 r57 fun x59 x60 => arI x59 .i64 fun n61 => arB x60 fun b62 => fB (!b62) fun b63 => ifA b63 (K (AV.tup [AV.s (AS.int .i64 (Int.ofNat 0)), AV.s (AS.int .i64 (Int.ofNat 11))]) h58) (K (AV.tup [AV.s (AS.int .i64 n61), AV.s (AS.int .i64 (Int.ofNat 0))]) h58)) fun J42 => fB (!iEq n34 (Int.ofNat 0)) fun b37 => ifA b37 (fB (!iEq n34 (Int.ofNat 16)) fun b38 => ifA b38 (K (AV.tup [AV.s (AS.int .i64 (Int.ofNat 0)), AV.s (AS.int .i64 n34)]) h26) (fB (!r35) fun b39 => ifA b39 (K (AV.tup [AV.s (AS.int .i64 (Int.ofNat 0)), AV.s (AS.int .i64 n34)]) h26) (J42 (p28, n30, p32) h26))) (J42 (p28, n30, p32) h26)) fun J27 => rowK h11 g1 fun cs13 => ldI cs13 0 .i64 fun n14 => fB (!iEq n14 (Int.ofNat 1)) fun b15 => ifA b15 (J27 (q0, q2, (.at g1 0), n12, true) h11) (nilK q0 fun g16 o17 => fN (Nat.add o17 0) fun o18 => rowK h11 g16 fun cs19 => ldP cs19 o18 fun p20 => cl i_table_Table_Len [AV.s (AS.ptr p20)] h11 fun r21 h22 => arI r21 .i64 fun n23 => fB (iLt n23 (Int.ofNat 200)) fun b24 => J27 (q0, q2, (.at g1 0), n12, b24) h22)
def R_world_World_Do : Nat → RegHint := fun id => match id with
  | 1 => ⟨(.op 0 (.op 1 (.op 2 (.op 3 (.op 4 (.op 5 (.op 6 .nil))))))), 0, 0, 5, 0⟩
  | 5 => ⟨(.op 0 (.op 1 (.op 2 (.op 3 (.op 4 (.op 5 (.op 6 (.op 7 (.op 8 (.op 9 (.op 10 (.op 11 .nil)))))))))))), 0, 0, 6, 0⟩
  | _ => ⟨.nil, 0, 0, 0, 0⟩
def J_world_World_Do : Option Nat → Option LoopA := fun id => match id with
  | some 3 => some ⟨AP × Int × AP × Int × Bool, (.pair (EncA.ptr 0) (.pair (EncA.int .i64 2) (.pair (EncA.ptr 4) (.pair (EncA.int .i64 8) (EncA.bool 9)))))⟩
  | some 5 => some ⟨AP × Int × AP, (.pair (EncA.ptr 0) (.pair (EncA.int .i64 2) (EncA.ptr 4)))⟩
  | _ => none
theorem E_world_World_Do (lf : Nat) (cl : Cl) : PK.Eq [.ptr, .agg, .int .i64] (evFn PG cl noL R_world_World_Do J_world_World_Do lf Tryz.f103) (B_world_World_Do lf cl) := by intro q0 q1 q2 H K; kernel_rfl
theorem O_world_World_Do (lf : Nat) (w0 : World) : OkB PG w0 i_world_World_Do (PK.run [.ptr, .agg, .int .i64] (B_world_World_Do lf)) := okb mix (fn := Tryz.f103) rfl (E_world_World_Do lf)

end
end Go.Proofs
end
section
namespace Go.Proofs
open Go Go.Vw Go.Vw.Ev
set_option maxRecDepth 100000
set_option maxHeartbeats 4000000
set_option linter.unusedVariables false
noncomputable section
/-- cmp.Or[int] -/
def B_cmp_Or_int (lf : Nat) (cl : Cl) (q0p : AP) (q0n : Nat) (q0c : ACap) (q0z : Nat) (H : AH) (K : AV → AH → Bool) : Bool :=
  (loopX lf (fun (self3 : (Int × (AP × Nat × ACap × Nat) × Int × Int) → AH → Bool) (x1 : Int × (AP × Nat × ACap × Nat) × Int × Int) (h2 : AH) => pR x1 fun n4 r5 => pR r5 fun u6 r6 => pR u6 fun p6 r6a => pR r6a fun l6 r6b => pR r6b fun c6 z6 => pR r6 fun n7 r8 => fB (iLt r8 n7) fun b10 => ifA b10 (nilK p6 fun g11 o12 => idxK r8 l6 fun m13 => fN (Nat.add o12 (Nat.mul m13 1)) fun o14 => rowK h2 g11 fun cs15 => ldI cs15 o14 .i64 fun n16 => fB (!iEq n16 n4) fun b17 => ifA b17 (K (AV.s (AS.int .i64 n16)) h2) (w64 (iAdd r8 (Int.ofNat 1)) fun n18 => self3 (n4, (p6, l6, c6, z6), n7, n18) h2)) (K (AV.s (AS.int .i64 n4)) h2)) ((Int.ofNat 0), (q0p, q0n, q0c, q0z), (Int.ofNat q0n), (Int.ofNat 0)) H)
def L_cmp_Or_int : Nat → LoopA := fun id => match id with
  | 3 => ⟨Int × (AP × Nat × ACap × Nat) × Int × Int, (.pair (EncA.int .i64 3) (.pair (EncA.slice 6) (.pair (EncA.int .i64 7) (EncA.int .i64 8))))⟩
  | _ => noA
theorem E_cmp_Or_int (lf : Nat) (cl : Cl) : PK.Eq [.slice] (evFn PG cl L_cmp_Or_int noR noJ lf Tryz.f80) (B_cmp_Or_int lf cl) := by intro q0p q0n q0c q0z H K; kernel_rfl
theorem O_cmp_Or_int (lf : Nat) (w0 : World) : OkB PG w0 i_cmp_Or_int (PK.run [.slice] (B_cmp_Or_int lf)) := okb mix (fn := Tryz.f80) rfl (E_cmp_Or_int lf)

/-- cmp.Compare[int] -/
def B_cmp_Compare_int (lf : Nat) (cl : Cl) (q0 : Int) (q1 : Int) (H : AH) (K : AV → AH → Bool) : Bool :=
  cl i_cmp_isNaN_int [AV.s (AS.int .i64 q0)] H fun r1 h2 => arB r1 fun b3 => cl i_cmp_isNaN_int [AV.s (AS.int .i64 q1)] h2 fun r4 h5 => arB r4 fun b6 => ifA b3 (ifA b6 (K (AV.s (AS.int .i64 (Int.ofNat 0))) h5) (K (AV.s (AS.int .i64 (Int.negSucc 0))) h5)) (ifA b6 (K (AV.s (AS.int .i64 (Int.ofNat 1))) h5) (fB (iLt q0 q1) fun b7 => ifA b7 (K (AV.s (AS.int .i64 (Int.negSucc 0))) h5) (fB (iLt q1 q0) fun b8 => ifA b8 (K (AV.s (AS.int .i64 (Int.ofNat 1))) h5) (K (AV.s (AS.int .i64 (Int.ofNat 0))) h5))))
theorem E_cmp_Compare_int (lf : Nat) (cl : Cl) : PK.Eq [.int .i64, .int .i64] (evFn PG cl noL noR noJ lf Tryz.f81) (B_cmp_Compare_int lf cl) := by intro q0 q1 H K; kernel_rfl
theorem O_cmp_Compare_int (lf : Nat) (w0 : World) : OkB PG w0 i_cmp_Compare_int (PK.run [.int .i64, .int .i64] (B_cmp_Compare_int lf)) := okb mix (fn := Tryz.f81) rfl (E_cmp_Compare_int lf)

/-- cmp.isNaN[int] -/
def B_cmp_isNaN_int (lf : Nat) (cl : Cl) (q0 : Int) (H : AH) (K : AV → AH → Bool) : Bool :=
  fB (!iEq q0 q0) fun b1 => K (AV.s (AS.bool b1)) H
theorem E_cmp_isNaN_int (lf : Nat) (cl : Cl) : PK.Eq [.int .i64] (evFn PG cl noL noR noJ lf Tryz.f138) (B_cmp_isNaN_int lf cl) := by intro q0 H K; kernel_rfl
theorem O_cmp_isNaN_int (lf : Nat) (w0 : World) : OkB PG w0 i_cmp_isNaN_int (PK.run [.int .i64] (B_cmp_isNaN_int lf)) := okb mix (fn := Tryz.f138) rfl (E_cmp_isNaN_int lf)


end
end Go.Proofs
end
section
namespace Go.Proofs
open Go Go.Vw Go.Vw.Ev
set_option maxRecDepth 100000
set_option maxHeartbeats 4000000
set_option linter.unusedVariables false
noncomputable section

end
end Go.Proofs
end
section
namespace Go.Proofs
open Go Go.Vw Go.Vw.Ev
set_option maxRecDepth 100000
set_option maxHeartbeats 4000000
set_option linter.unusedVariables false
noncomputable section

end
end Go.Proofs
end
section
namespace Go.Proofs
open Go Go.Vw Go.Vw.Ev
set_option maxRecDepth 100000
set_option maxHeartbeats 4000000
set_option linter.unusedVariables false
noncomputable section

end
end Go.Proofs
end
