import Derived.Test.YtnncbfpkeikfaaaGreatVwDed
import Derived.KernelRfl
import Derived.Test.YtnncbfpkeikfaaaGreatProg
import Derived.Test.YtnncbfpkeikfaaaGreatChecked
section
namespace Go.Proofs
open Go Go.Vw Go.Vw.Ev
noncomputable abbrev PG : Program := Tryz.prog
theorem mix : PG.follows .mixedOrders = true := Tryz.checked.mixed
def i_law11_ActTells : Nat := 3
def i_law12_WorldPlays : Nat := 4
def i_law11_known : Nat := 5
def i_law11_fewThings : Nat := 6
def i_law11_fewCmd : Nat := 7
def i_table_Of : Nat := 8
def i_table_Table_All : Nat := 9
def i_act_Check : Nat := 10
def i_act_Do : Nat := 11
def i_ref11_Do : Nat := 12
def i_ref11_Check : Nat := 13
def i_ref6_SameAll : Nat := 14
def i_law12_known : Nat := 15
def i_world_New : Nat := 16
def i_law12_fewCmd : Nat := 17
def i_world_World_Copy : Nat := 18
def i_world_World_Do : Nat := 19
def i_world_World_All : Nat := 20
def i_world_World_See : Nat := 21
def i_ref6_Seen : Nat := 22
def i_world_World_Len : Nat := 23
def i_world_Of : Nat := 24
def i_table_New : Nat := 25
def i_law11_fewThing : Nat := 26
def i_table_Table_Put : Nat := 27
def i_table_Table_of : Nat := 28
def i_slices_Sorted_int : Nat := 29
def i_maps_Keys_int_Thing : Nat := 30
def i_cmd_Is : Nat := 31
def i_table_Table_Get : Nat := 32
def i_cells_Of : Nat := 33
def i_table_Table_Len : Nat := 34
def i_act_full : Nat := 35
def i_act_away : Nat := 36
def i_act_Done : Nat := 37
def i_ref6_At : Nat := 38
def i_ref11_Done : Nat := 39
def i_ref10_Is : Nat := 40
def i_ref3_Cell : Nat := 41
def i_ref11_InCell : Nat := 42
def i_table_Table_Copy : Nat := 43
def i_table_Table_In : Nat := 44
def i_ref3_In : Nat := 45
def i_quad_New : Nat := 46
def i_law11_fewField : Nat := 47
def i_thing_Is : Nat := 48
def i_table_Table_Lay : Nat := 49
def i_slices_Collect_int : Nat := 50
def i_slices_Sort_int : Nat := 51
def i_maps_Keys_int_Thing_1 : Nat := 52
def i_fields_IsField : Nat := 53
def i_cmd_core : Nat := 54
def i_cmd_near : Nat := 55
def i_geom_On : Nat := 56
def i_cells_at : Nat := 57
def i_table_Table_Cell : Nat := 58
def i_table_Table_Drop : Nat := 59
def i_ref6_With : Nat := 60
def i_ref6_Without : Nat := 61
def i_ref10_within : Nat := 62
def i_ref10_shape : Nat := 63
def i_ref10_point : Nat := 64
def i_ref10_rect : Nat := 65
def i_ref6_IsField : Nat := 66
def i_ref3_On : Nat := 67
def i_ref3_Weave : Nat := 68
def i_maps_Clone_int_Thing : Nat := 69
def i_quad_Tree_Copy : Nat := 70
def i_quad_Tree_In : Nat := 71
def i_slices_ContainsFunc_Field : Nat := 72
def i_thing_Is_1 : Nat := 73
def i_quad_Tree_Drop : Nat := 74
def i_quad_Tree_Lay : Nat := 75
def i_slices_AppendSeq_int : Nat := 76
def i_slices_pdqsortOrdered_int : Nat := 77
def i_math_bits_Len : Nat := 78
def i_morton_Weave : Nat := 79
def i_cells_Rect : Nat := 80
def i_maps_Keys_int_Point : Nat := 82
def i_quad_Tree_in : Nat := 83
def i_quad_whole : Nat := 84
def i_slices_IndexFunc_Field : Nat := 85
def i_quad_Tree_remove : Nat := 86
def i_quad_Tree_add : Nat := 87
def i_slices_insertionSortOrdered_int : Nat := 88
def i_slices_heapSortOrdered_int : Nat := 89
def i_slices_breakPatternsOrdered_int : Nat := 90
def i_slices_choosePivotOrdered_int : Nat := 91
def i_slices_reverseRangeOrdered_int : Nat := 92
def i_slices_partialInsertionSortOrdered_int : Nat := 93
def i_cmp_Less_int : Nat := 94
def i_slices_partitionEqualOrdered_int : Nat := 95
def i_slices_partitionOrdered_int : Nat := 96
def i_math_bits_Len32 : Nat := 97
def i_math_bits_Len64 : Nat := 98
def i_morton_spread : Nat := 99
def i_cells_Is : Nat := 100
def i_cells_place : Nat := 101
def i_maps_Keys_int_Point_1 : Nat := 102
def i_geom_Empty : Nat := 103
def i_geom_Meet : Nat := 104
def i_geom_In : Nat := 105
def i_quad_quarter : Nat := 106
def i_slices_DeleteFunc_int : Nat := 107
def i_quad_Tree_remove_1 : Nat := 108
def i_quad_which : Nat := 109
def i_quad_square_all : Nat := 110
def i_slices_siftDownOrdered_int : Nat := 111
def i_slices_nextPowerOfTwo : Nat := 112
def i_slices_xorshift_Next : Nat := 113
def i_slices_medianAdjacentOrdered_int : Nat := 114
def i_slices_medianOrdered_int : Nat := 115
def i_cmp_isNaN_int : Nat := 116
def i_morton_Split : Nat := 117
def i_geom_tidy : Nat := 118
def i_slices_IndexFunc_int : Nat := 119
def i_slices_Clone_int : Nat := 120
def i_slices_order2Ordered_int : Nat := 121
def i_morton_gather : Nat := 122
end Go.Proofs
end
section
namespace Go.Proofs
open Go Go.Vw Go.Vw.Ev
set_option maxRecDepth 100000
set_option maxHeartbeats 4000000
set_option linter.unusedVariables false
noncomputable section
/-- vedette/geom.On -/
def B_geom_On (lf : Nat) (cl : Cl) (q0 : List AS) (H : AH) (K : AV → AH → Bool) : Bool :=
  newK H (.row q0) fun g1 h2 => rowK h2 g1 fun cs3 => ldI cs3 0 .i64 fun n4 => fB (iLe (Int.ofNat 0) n4) fun b5 => ifA b5 (rowK h2 g1 fun cs6 => ldI cs6 0 .i64 fun n7 => fB (iLt n7 (Int.ofNat 64)) fun b8 => ifA b8 (rowK h2 g1 fun cs9 => ldI cs9 1 .i64 fun n10 => fB (iLe (Int.ofNat 0) n10) fun b11 => ifA b11 (rowK h2 g1 fun cs12 => ldI cs12 1 .i64 fun n13 => fB (iLt n13 (Int.ofNat 64)) fun b14 => K (AV.s (AS.bool b14)) h2) (K (AV.s (AS.bool false)) h2)) (K (AV.s (AS.bool false)) h2)) (K (AV.s (AS.bool false)) h2)
theorem E_geom_On (lf : Nat) (cl : Cl) : PK.Eq [.agg] (evFn PG cl noL noR noJ lf Tryz.f56) (B_geom_On lf cl) := by intro q0 H K; kernel_rfl
theorem O_geom_On (lf : Nat) (w0 : World) : OkB PG w0 i_geom_On (PK.run [.agg] (B_geom_On lf)) := okb mix (fn := Tryz.f56) rfl (E_geom_On lf)

/-- vedette/geom.Empty -/
def B_geom_Empty (lf : Nat) (cl : Cl) (q0 : List AS) (H : AH) (K : AV → AH → Bool) : Bool :=
  newK H (.row q0) fun g1 h2 => rowK h2 g1 fun cs3 => ldI cs3 0 .i64 fun n4 => rowK h2 g1 fun cs5 => ldI cs5 2 .i64 fun n6 => fB (iLe n6 n4) fun b7 => ifA b7 (K (AV.s (AS.bool true)) h2) (rowK h2 g1 fun cs8 => ldI cs8 1 .i64 fun n9 => rowK h2 g1 fun cs10 => ldI cs10 3 .i64 fun n11 => fB (iLe n11 n9) fun b12 => K (AV.s (AS.bool b12)) h2)
theorem E_geom_Empty (lf : Nat) (cl : Cl) : PK.Eq [.agg] (evFn PG cl noL noR noJ lf Tryz.f103) (B_geom_Empty lf cl) := by intro q0 H K; kernel_rfl
theorem O_geom_Empty (lf : Nat) (w0 : World) : OkB PG w0 i_geom_Empty (PK.run [.agg] (B_geom_Empty lf)) := okb mix (fn := Tryz.f103) rfl (E_geom_Empty lf)

/-- vedette/geom.Meet -/
def B_geom_Meet (lf : Nat) (cl : Cl) (q0 : List AS) (q1 : List AS) (H : AH) (K : AV → AH → Bool) : Bool :=
  newK H (.row q0) fun g1 h2 => newK h2 (.row q1) fun g3 h4 => newK h4 (.row [AS.int .i64 (Int.ofNat 0), AS.int .i64 (Int.ofNat 0), AS.int .i64 (Int.ofNat 0), AS.int .i64 (Int.ofNat 0)]) fun g5 h6 => rowK h6 g1 fun cs7 => ldI cs7 0 .i64 fun n8 => rowK h6 g3 fun cs9 => ldI cs9 0 .i64 fun n10 => fI (mxA n8 n10) fun n11 => rowK h6 g1 fun cs12 => ldI cs12 1 .i64 fun n13 => rowK h6 g3 fun cs14 => ldI cs14 1 .i64 fun n15 => fI (mxA n13 n15) fun n16 => rowK h6 g1 fun cs17 => ldI cs17 2 .i64 fun n18 => rowK h6 g3 fun cs19 => ldI cs19 2 .i64 fun n20 => fI (mnA n18 n20) fun n21 => rowK h6 g1 fun cs22 => ldI cs22 3 .i64 fun n23 => rowK h6 g3 fun cs24 => ldI cs24 3 .i64 fun n25 => fI (mnA n23 n25) fun n26 => cl i_geom_tidy [AV.agg [AS.int .i64 n11, AS.int .i64 n16, AS.int .i64 n21, AS.int .i64 n26]] h6 fun r27 h28 => asG r27 fun cs29 => stoN h28 g5 0 4 cs29 fun h30 => rowK h30 g5 fun cs31 => ldG cs31 0 4 fun cs32 => K (AV.agg cs32) h30
theorem E_geom_Meet (lf : Nat) (cl : Cl) : PK.Eq [.agg, .agg] (evFn PG cl noL noR noJ lf Tryz.f104) (B_geom_Meet lf cl) := by intro q0 q1 H K; kernel_rfl
theorem O_geom_Meet (lf : Nat) (w0 : World) : OkB PG w0 i_geom_Meet (PK.run [.agg, .agg] (B_geom_Meet lf)) := okb mix (fn := Tryz.f104) rfl (E_geom_Meet lf)

/-- vedette/geom.In -/
def B_geom_In (lf : Nat) (cl : Cl) (q0 : List AS) (q1 : List AS) (H : AH) (K : AV → AH → Bool) : Bool :=
  newK H (.row q0) fun g1 h2 => newK h2 (.row q1) fun g3 h4 => rowK h4 g3 fun cs5 => ldI cs5 0 .i64 fun n6 => rowK h4 g1 fun cs7 => ldI cs7 0 .i64 fun n8 => fB (iLe n8 n6) fun b9 => ifA b9 (rowK h4 g3 fun cs10 => ldI cs10 0 .i64 fun n11 => rowK h4 g1 fun cs12 => ldI cs12 2 .i64 fun n13 => fB (iLt n11 n13) fun b14 => ifA b14 (rowK h4 g3 fun cs15 => ldI cs15 1 .i64 fun n16 => rowK h4 g1 fun cs17 => ldI cs17 1 .i64 fun n18 => fB (iLe n18 n16) fun b19 => ifA b19 (rowK h4 g3 fun cs20 => ldI cs20 1 .i64 fun n21 => rowK h4 g1 fun cs22 => ldI cs22 3 .i64 fun n23 => fB (iLt n21 n23) fun b24 => K (AV.s (AS.bool b24)) h4) (K (AV.s (AS.bool false)) h4)) (K (AV.s (AS.bool false)) h4)) (K (AV.s (AS.bool false)) h4)
theorem E_geom_In (lf : Nat) (cl : Cl) : PK.Eq [.agg, .agg] (evFn PG cl noL noR noJ lf Tryz.f105) (B_geom_In lf cl) := by intro q0 q1 H K; kernel_rfl
theorem O_geom_In (lf : Nat) (w0 : World) : OkB PG w0 i_geom_In (PK.run [.agg, .agg] (B_geom_In lf)) := okb mix (fn := Tryz.f105) rfl (E_geom_In lf)

/-- vedette/geom.tidy -/
def B_geom_tidy (lf : Nat) (cl : Cl) (q0 : List AS) (H : AH) (K : AV → AH → Bool) : Bool :=
  newK H (.row q0) fun g1 h2 => newK h2 (.row [AS.int .i64 (Int.ofNat 0), AS.int .i64 (Int.ofNat 0), AS.int .i64 (Int.ofNat 0), AS.int .i64 (Int.ofNat 0)]) fun g3 h4 => rowK h4 g1 fun cs5 => ldG cs5 0 4 fun cs6 => cl i_geom_Empty [AV.agg cs6] h4 fun r7 h8 => arB r7 fun b9 => ifA b9 (stoN h8 g3 0 4 [AS.int .i64 (Int.ofNat 0), AS.int .i64 (Int.ofNat 0), AS.int .i64 (Int.ofNat 0), AS.int .i64 (Int.ofNat 0)] fun h10 => rowK h10 g3 fun cs11 => ldG cs11 0 4 fun cs12 => K (AV.agg cs12) h10) (rowK h8 g1 fun cs13 => ldG cs13 0 4 fun cs14 => stoN h8 g3 0 4 cs14 fun h15 => rowK h15 g3 fun cs16 => ldG cs16 0 4 fun cs17 => K (AV.agg cs17) h15)
theorem E_geom_tidy (lf : Nat) (cl : Cl) : PK.Eq [.agg] (evFn PG cl noL noR noJ lf Tryz.f118) (B_geom_tidy lf cl) := by intro q0 H K; kernel_rfl
theorem O_geom_tidy (lf : Nat) (w0 : World) : OkB PG w0 i_geom_tidy (PK.run [.agg] (B_geom_tidy lf)) := okb mix (fn := Tryz.f118) rfl (E_geom_tidy lf)

end
end Go.Proofs
end
section
namespace Go.Proofs
open Go Go.Vw Go.Vw.Ev
set_option maxRecDepth 100000
set_option maxHeartbeats 4000000
set_option linter.unusedVariables false
noncomputable section
/-- maps.Keys[map[int]vedette/api.Thing,int,vedette/api.Thing] -/
def B_maps_Keys_int_Thing (lf : Nat) (cl : Cl) (q0 : Option Pn) (H : AH) (K : AV → AH → Bool) : Bool :=
  newK H (.row [AS.map q0]) fun g1 h2 => K (AV.s (AS.func i_maps_Keys_int_Thing_1 [] [AS.ptr (.at g1 0)])) h2
theorem E_maps_Keys_int_Thing (lf : Nat) (cl : Cl) : PK.Eq [.map] (evFn PG cl noL noR noJ lf Tryz.f30) (B_maps_Keys_int_Thing lf cl) := by intro q0 H K; kernel_rfl
theorem O_maps_Keys_int_Thing (lf : Nat) (w0 : World) : OkB PG w0 i_maps_Keys_int_Thing (PK.run [.map] (B_maps_Keys_int_Thing lf)) := okb mix (fn := Tryz.f30) rfl (E_maps_Keys_int_Thing lf)

/-- maps.Keys[map[int]vedette/api.Point,int,vedette/api.Point] -/
def B_maps_Keys_int_Point (lf : Nat) (cl : Cl) (q0 : Option Pn) (H : AH) (K : AV → AH → Bool) : Bool :=
  newK H (.row [AS.map q0]) fun g1 h2 => K (AV.s (AS.func i_maps_Keys_int_Point_1 [] [AS.ptr (.at g1 0)])) h2
theorem E_maps_Keys_int_Point (lf : Nat) (cl : Cl) : PK.Eq [.map] (evFn PG cl noL noR noJ lf Tryz.f82) (B_maps_Keys_int_Point lf cl) := by intro q0 H K; kernel_rfl
theorem O_maps_Keys_int_Point (lf : Nat) (w0 : World) : OkB PG w0 i_maps_Keys_int_Point (PK.run [.map] (B_maps_Keys_int_Point lf)) := okb mix (fn := Tryz.f82) rfl (E_maps_Keys_int_Point lf)

end
end Go.Proofs
end
section
namespace Go.Proofs
open Go Go.Vw Go.Vw.Ev
set_option maxRecDepth 100000
set_option maxHeartbeats 4000000
set_option linter.unusedVariables false
noncomputable section
/-- vedette/quad.New -/
def B_quad_New (lf : Nat) (cl : Cl)  (H : AH) (K : AV → AH → Bool) : Bool :=
  newK H (.imap []) fun g1 h2 => newK h2 (.row [AS.map (some g1), AS.int .i64 (Int.ofNat 0), AS.slice AP.nil 0 (.lit 0) 1, AS.ptr AP.nil]) fun g3 h4 => K (AV.s (AS.ptr (.at g3 0))) h4
theorem E_quad_New (lf : Nat) (cl : Cl) : PK.Eq [] (evFn PG cl noL noR noJ lf Tryz.f46) (B_quad_New lf cl) := by intro  H K; kernel_rfl
theorem O_quad_New (lf : Nat) (w0 : World) : OkB PG w0 i_quad_New (PK.run [] (B_quad_New lf)) := okb mix (fn := Tryz.f46) rfl (E_quad_New lf)

/-- (*vedette/quad.Tree).Copy -/
def B_quad_Tree_Copy (lf : Nat) (cl : Cl) (q0 : AP) (H : AH) (K : AV → AH → Bool) : Bool :=
  cl i_quad_New [] H fun r1 h2 => asP r1 fun p3 => nilK q0 fun g4 o5 => fN (Nat.add o5 0) fun o6 => rowK h2 g4 fun cs7 => ldM cs7 o6 fun r8 => cl i_maps_Keys_int_Point [AV.s (AS.map r8)] h2 fun r9 h10 => cl i_slices_Sorted_int [r9] h10 fun r11 h12 => asSl r11 fun p13 l13 c13 z13 => (loopX lf (fun (self16 : (AP × AP × (AP × Nat × ACap × Nat) × Int × Int) → AH → Bool) (x14 : AP × AP × (AP × Nat × ACap × Nat) × Int × Int) (h15 : AH) => pR x14 fun p17 r18 => pR r18 fun p19 r20 => pR r20 fun u21 r21 => pR u21 fun p21 r21a => pR r21a fun l21 r21b => pR r21b fun c21 z21 => pR r21 fun n22 r23 => fB (iLt r23 n22) fun b25 => ifA b25 (nilK p21 fun g26 o27 => idxK r23 l21 fun m28 => fN (Nat.add o27 (Nat.mul m28 1)) fun o29 => rowK h15 g26 fun cs30 => ldI cs30 o29 .i64 fun n31 => nilK p17 fun g32 o33 => fN (Nat.add o33 0) fun o34 => rowK h15 g32 fun cs35 => ldM cs35 o34 fun r36 => asMp (AV.s (AS.map r36)) fun g40 => mapK h15 g40 fun es37 => lkZ es37 n31 (AV.agg [AS.int .i64 (Int.ofNat 0), AS.int .i64 (Int.ofNat 0)]) fun v38 b39 => asG v38 fun cs41 => cl i_quad_Tree_Lay [AV.s (AS.ptr p19), AV.s (AS.int .i64 n31), AV.agg cs41] h15 fun r42 h43 => tup0 r42 (w64 (iAdd r23 (Int.ofNat 1)) fun n44 => self16 (p17, p19, (p21, l21, c21, z21), n22, n44) h43)) (K (AV.s (AS.ptr p19)) h15)) (q0, p3, (p13, l13, c13, z13), (Int.ofNat l13), (Int.ofNat 0)) h12)
def L_quad_Tree_Copy : Nat → LoopA := fun id => match id with
  | 3 => ⟨AP × AP × (AP × Nat × ACap × Nat) × Int × Int, (.pair (EncA.ptr 0) (.pair (EncA.ptr 3) (.pair (EncA.slice 12) (.pair (EncA.int .i64 13) (EncA.int .i64 14)))))⟩
  | _ => noA
theorem E_quad_Tree_Copy (lf : Nat) (cl : Cl) : PK.Eq [.ptr] (evFn PG cl L_quad_Tree_Copy noR noJ lf Tryz.f70) (B_quad_Tree_Copy lf cl) := by intro q0 H K; kernel_rfl
theorem O_quad_Tree_Copy (lf : Nat) (w0 : World) : OkB PG w0 i_quad_Tree_Copy (PK.run [.ptr] (B_quad_Tree_Copy lf)) := okb mix (fn := Tryz.f70) rfl (E_quad_Tree_Copy lf)

/-- (*vedette/quad.Tree).In -/
def B_quad_Tree_In (lf : Nat) (cl : Cl) (q0 : AP) (q1 : List AS) (H : AH) (K : AV → AH → Bool) : Bool :=
  newK H (.row q1) fun g1 h2 => nilK q0 fun g3 o4 => fN (Nat.add o4 1) fun o5 => getK h2 g1 fun k6 => rowK h2 g1 fun cs7 => ldG cs7 0 4 fun cs8 => cl i_quad_whole [] h2 fun r9 h10 => okK (kSame ((g1, k6) :: []) h10) (asG r9 fun cs11 => cl i_quad_Tree_in [AV.s (AS.ptr q0), AV.s (AS.slice AP.nil 0 (.lit 0) 1), AV.s (AS.ptr (.at g3 o5)), AV.agg cs11, AV.agg cs8] h10 fun r12 h13 => asSl r12 fun p14 l14 c14 z14 => cl i_slices_Sort_int [AV.s (AS.slice p14 l14 c14 z14)] h13 fun r15 h16 => tup0 r15 (K (AV.s (AS.slice p14 l14 c14 z14)) h16))
def R_quad_Tree_In : Nat → RegHint := fun id => match id with
  | 1 => ⟨(.op 0 (.op 1 (.op 2 (.op 3 (.op 5 (.op 4 (.op 6 (.op 7 .nil)))))))), 16, 32, 5, 0⟩
  | _ => ⟨.nil, 0, 0, 0, 0⟩
theorem E_quad_Tree_In (lf : Nat) (cl : Cl) : PK.Eq [.ptr, .agg] (evFn PG cl noL R_quad_Tree_In noJ lf Tryz.f71) (B_quad_Tree_In lf cl) := by intro q0 q1 H K; kernel_rfl
theorem O_quad_Tree_In (lf : Nat) (w0 : World) : OkB PG w0 i_quad_Tree_In (PK.run [.ptr, .agg] (B_quad_Tree_In lf)) := okb mix (fn := Tryz.f71) rfl (E_quad_Tree_In lf)

/-- (*vedette/quad.Tree).Drop -/
def B_quad_Tree_Drop (lf : Nat) (cl : Cl) (q0 : AP) (q1 : Int) (H : AH) (K : AV → AH → Bool) : Bool :=
  nilK q0 fun g1 o2 => fN (Nat.add o2 0) fun o3 => rowK H g1 fun cs4 => ldM cs4 o3 fun r5 => asMp (AV.s (AS.map r5)) fun g9 => mapK H g9 fun es6 => lkZ es6 q1 (AV.agg [AS.int .i64 (Int.ofNat 0), AS.int .i64 (Int.ofNat 0)]) fun v7 b8 => asG v7 fun cs10 => newK H (.row [AS.int .i64 (Int.ofNat 0), AS.int .i64 (Int.ofNat 0)]) fun g11 h12 => stoN h12 g11 0 2 cs10 fun h13 => fB (!b8) fun b14 => ifA b14 (K (AV.s (AS.int .i64 (Int.ofNat 15))) h13) (nilK q0 fun g15 o16 => fN (Nat.add o16 1) fun o17 => cl i_quad_whole [] h13 fun r18 h19 => asG r18 fun cs20 => cl i_quad_Tree_remove [AV.s (AS.ptr q0), AV.s (AS.ptr (.at g15 o17)), AV.agg cs20, AV.s (AS.int .i64 q1)] h19 fun r21 h22 => tup0 r21 (nilK q0 fun g23 o24 => fN (Nat.add o24 0) fun o25 => rowK h22 g23 fun cs26 => ldM cs26 o25 fun r27 => asMp (AV.s (AS.map r27)) fun g31 => mapK h22 g31 fun es28 => fL (delA es28 q1) fun es29 => wrK h22 g31 (some (.imap es29)) fun h30 => K (AV.s (AS.int .i64 (Int.ofNat 0))) h30))
def R_quad_Tree_Drop : Nat → RegHint := fun id => match id with
  | 4 => ⟨(.op 0 (.op 1 (.op 2 (.op 3 (.op 5 (.op 4 (.op 6 .nil))))))), 0, 0, 5, 0⟩
  | _ => ⟨.nil, 0, 0, 0, 0⟩
theorem E_quad_Tree_Drop (lf : Nat) (cl : Cl) : PK.Eq [.ptr, .int .i64] (evFn PG cl noL R_quad_Tree_Drop noJ lf Tryz.f74) (B_quad_Tree_Drop lf cl) := by intro q0 q1 H K; kernel_rfl
theorem O_quad_Tree_Drop (lf : Nat) (w0 : World) : OkB PG w0 i_quad_Tree_Drop (PK.run [.ptr, .int .i64] (B_quad_Tree_Drop lf)) := okb mix (fn := Tryz.f74) rfl (E_quad_Tree_Drop lf)

/-- (*vedette/quad.Tree).Lay -/
def B_quad_Tree_Lay (lf : Nat) (cl : Cl) (q0 : AP) (q1 : Int) (q2 : List AS) (H : AH) (K : AV → AH → Bool) : Bool :=
  newK H (.row q2) fun g1 h2 => nilK q0 fun g3 o4 => fN (Nat.add o4 0) fun o5 => rowK h2 g3 fun cs6 => ldM cs6 o5 fun r7 => rowK h2 g1 fun cs8 => ldG cs8 0 2 fun cs9 => asMp (AV.s (AS.map r7)) fun g13 => mapK h2 g13 fun es10 => fL (setA es10 q1 (AV.agg cs9)) fun es11 => wrK h2 g13 (some (.imap es11)) fun h12 => nilK q0 fun g14 o15 => fN (Nat.add o15 1) fun o16 => cl i_quad_whole [] h12 fun r17 h18 => asG r17 fun cs19 => cl i_quad_Tree_add [AV.s (AS.ptr q0), AV.s (AS.ptr (.at g14 o16)), AV.agg cs19, AV.s (AS.int .i64 (Int.ofNat 0)), AV.s (AS.int .i64 q1)] h18 fun r20 h21 => tup0 r20 (K (AV.tup []) h21)
def R_quad_Tree_Lay : Nat → RegHint := fun id => match id with
  | 1 => ⟨(.op 0 (.op 1 (.op 2 (.op 3 (.op 4 (.op 5 (.op 6 .nil))))))), 0, 0, 6, 0⟩
  | 2 => ⟨(.op 0 (.op 1 (.op 2 (.op 3 (.op 5 (.op 4 (.op 6 .nil))))))), 0, 0, 5, 0⟩
  | _ => ⟨.nil, 0, 0, 0, 0⟩
theorem E_quad_Tree_Lay (lf : Nat) (cl : Cl) : PK.Eq [.ptr, .int .i64, .agg] (evFn PG cl noL R_quad_Tree_Lay noJ lf Tryz.f75) (B_quad_Tree_Lay lf cl) := by intro q0 q1 q2 H K; kernel_rfl
theorem O_quad_Tree_Lay (lf : Nat) (w0 : World) : OkB PG w0 i_quad_Tree_Lay (PK.run [.ptr, .int .i64, .agg] (B_quad_Tree_Lay lf)) := okb mix (fn := Tryz.f75) rfl (E_quad_Tree_Lay lf)

/-- (*vedette/quad.Tree).in -/
def B_quad_Tree_in (lf : Nat) (cl : Cl) (q0 : AP) (q1p : AP) (q1n : Nat) (q1c : ACap) (q1z : Nat) (q2 : AP) (q3 : List AS) (q4 : List AS) (H : AH) (K : AV → AH → Bool) : Bool :=
  newK H (.row q3) fun g1 h2 => newK h2 (.row q4) fun g3 h4 => nilK q2 fun g5 o6 => fN (Nat.add o6 0) fun o7 => rowK h4 g5 fun cs8 => ldI cs8 o7 .i64 fun n9 => fB (iEq n9 (Int.ofNat 0)) fun b10 => ifA b10 (K (AV.s (AS.slice q1p q1n q1c q1z)) h4) (rowK h4 g1 fun cs11 => ldG cs11 0 4 fun cs12 => rowK h4 g3 fun cs13 => ldG cs13 0 4 fun cs14 => cl i_geom_Meet [AV.agg cs12, AV.agg cs14] h4 fun r15 h16 => asG r15 fun cs17 => cl i_geom_Empty [AV.agg cs17] h16 fun r18 h19 => arB r18 fun b20 => ifA b20 (K (AV.s (AS.slice q1p q1n q1c q1z)) h19) (nilK q2 fun g21 o22 => fN (Nat.add o22 1) fun o23 => rowK h19 g21 fun cs24 => ldSl cs24 o23 fun p25 l25 c25 z25 => (loopX lf (fun (self28 : (AP × (AP × Nat × ACap × Nat) × AP × AP × AP × (AP × Nat × ACap × Nat) × Int × Int) → AH → Bool) (x26 : AP × (AP × Nat × ACap × Nat) × AP × AP × AP × (AP × Nat × ACap × Nat) × Int × Int) (h27 : AH) => pR x26 fun p29 r30 => pR r30 fun u31 r31 => pR u31 fun p31 r31a => pR r31a fun l31 r31b => pR r31b fun c31 z31 => pR r31 fun p32 r33 => pR r33 fun p34 r35 => pR r35 fun p36 r37 => pR r37 fun u38 r38 => pR u38 fun p38 r38a => pR r38a fun l38 r38b => pR r38b fun c38 z38 => pR r38 fun n39 r40 => fB (iLt r40 n39) fun b42 => ifA b42 (nilK p38 fun g43 o44 => idxK r40 l38 fun m45 => fN (Nat.add o44 (Nat.mul m45 1)) fun o46 => rowK h27 g43 fun cs47 => ldI cs47 o46 .i64 fun n48 => nilK p36 fun g49 o50 => rowK h27 g49 fun cs51 => ldG cs51 o50 4 fun cs52 => nilK p29 fun g53 o54 => fN (Nat.add o54 0) fun o55 => rowK h27 g53 fun cs56 => ldM cs56 o55 fun r57 => asMp (AV.s (AS.map r57)) fun g61 => mapK h27 g61 fun es58 => lkZ es58 n48 (AV.agg [AS.int .i64 (Int.ofNat 0), AS.int .i64 (Int.ofNat 0)]) fun v59 b60 => asG v59 fun cs62 => cl i_geom_In [AV.agg cs52, AV.agg cs62] h27 fun r63 h64 => arB r63 fun b65 => ifA b65 (newK h64 (.row [AS.int .i64 n48]) fun g66 h67 => elK h67 (.at g66 0) 1 1 fun ys68 => appA h67 p31 l31 z31 1 8 ys68 1 c31 fun p70 l70 c70 z70 h69 => w64 (iAdd r40 (Int.ofNat 1)) fun n71 => self28 (p29, (p70, l70, c70, z70), p32, p34, p36, (p38, l38, c38, z38), n39, n71) h69) (w64 (iAdd r40 (Int.ofNat 1)) fun n72 => self28 (p29, (p31, l31, c31, z31), p32, p34, p36, (p38, l38, c38, z38), n39, n72) h64)) ((loopX lf (fun (self75 : (AP × (AP × Nat × ACap × Nat) × AP × AP × AP × Int) → AH → Bool) (x73 : AP × (AP × Nat × ACap × Nat) × AP × AP × AP × Int) (h74 : AH) => pR x73 fun p76 r77 => pR r77 fun u78 r78 => pR u78 fun p78 r78a => pR r78a fun l78 r78b => pR r78b fun c78 z78 => pR r78 fun p79 r80 => pR r80 fun p81 r82 => pR r82 fun p83 r84 => nilK p79 fun g86 o87 => fN (Nat.add o87 2) fun o88 => rowK h74 g86 fun cs89 => ldP cs89 o88 fun p90 => fB (!isNilP p90) fun b91 => ifA b91 (fB (iLt r84 (Int.ofNat 4)) fun b92 => ifA b92 (nilK p79 fun g93 o94 => fN (Nat.add o94 2) fun o95 => getK h74 g93 fun k96 => rowK h74 g93 fun cs97 => ldP cs97 o95 fun p98 => nilK p98 fun g99 o100 => idxK r84 4 fun m101 => fN (Nat.add o100 (Nat.mul m101 3)) fun o102 => nilK p81 fun g103 o104 => rowK h74 g103 fun cs105 => ldG cs105 o104 4 fun cs106 => nilK p83 fun g108 o109 => getK h74 g108 fun k107 => nilK p83 fun g110 o111 => rowK h74 g110 fun cs112 => ldG cs112 o111 4 fun cs113 => cl i_quad_quarter [AV.agg cs106, AV.s (AS.int .i64 r84)] h74 fun r114 h115 => okK (kSame ((g108, k107) :: ((g93, k96) :: [])) h115) (asG r114 fun cs116 => cl i_quad_Tree_in [AV.s (AS.ptr p76), AV.s (AS.slice p78 l78 c78 z78), AV.s (AS.ptr (.at g99 o102)), AV.agg cs116, AV.agg cs113] h115 fun r117 h118 => asSl r117 fun p119 l119 c119 z119 => w64 (iAdd r84 (Int.ofNat 1)) fun n120 => self75 (p76, (p119, l119, c119, z119), p79, p81, p83, n120) h118)) (K (AV.s (AS.slice p78 l78 c78 z78)) h74)) (K (AV.s (AS.slice p78 l78 c78 z78)) h74)) (p29, (p31, l31, c31, z31), p32, p34, p36, (Int.ofNat 0)) h27))) (q0, (q1p, q1n, q1c, q1z), q2, (.at g1 0), (.at g3 0), (p25, l25, c25, z25), (Int.ofNat l25), (Int.ofNat 0)) h19)))
def L_quad_Tree_in : Nat → LoopA := fun id => match id with
  | 4 => ⟨AP × (AP × Nat × ACap × Nat) × AP × AP × AP × (AP × Nat × ACap × Nat) × Int × Int, (.pair (EncA.ptr 0) (.pair (EncA.slice 1) (.pair (EncA.ptr 2) (.pair (EncA.ptr 8) (.pair (EncA.ptr 9) (.pair (EncA.slice 29) (.pair (EncA.int .i64 30) (EncA.int .i64 31))))))))⟩
  | 10 => ⟨AP × (AP × Nat × ACap × Nat) × AP × AP × AP × Int, (.pair (EncA.ptr 0) (.pair (EncA.slice 1) (.pair (EncA.ptr 2) (.pair (EncA.ptr 8) (.pair (EncA.ptr 9) (EncA.int .i64 13))))))⟩
  | _ => noA
def R_quad_Tree_in : Nat → RegHint := fun id => match id with
  | 6 => ⟨(.op 0 (.op 1 (.op 2 (.op 3 (.op 4 (.op 5 (.op 6 (.op 7 .nil)))))))), 0, 0, 7, 0⟩
  | 12 => ⟨(.op 0 (.op 1 (.op 2 (.op 3 (.op 4 (.op 5 (.op 6 (.op 7 (.op 8 (.op 9 (.op 10 (.op 12 (.op 11 (.op 13 (.op 14 .nil))))))))))))))), 2048, 4128, 12, 0⟩
  | _ => ⟨.nil, 0, 0, 0, 0⟩
theorem E_quad_Tree_in (lf : Nat) (cl : Cl) : PK.Eq [.ptr, .slice, .ptr, .agg, .agg] (evFn PG cl L_quad_Tree_in R_quad_Tree_in noJ lf Tryz.f83) (B_quad_Tree_in lf cl) := by intro q0 q1p q1n q1c q1z q2 q3 q4 H K; kernel_rfl
theorem O_quad_Tree_in (lf : Nat) (w0 : World) : OkB PG w0 i_quad_Tree_in (PK.run [.ptr, .slice, .ptr, .agg, .agg] (B_quad_Tree_in lf)) := okb mix (fn := Tryz.f83) rfl (E_quad_Tree_in lf)

/-- vedette/quad.whole -/
def B_quad_whole (lf : Nat) (cl : Cl)  (H : AH) (K : AV → AH → Bool) : Bool :=
  newK H (.row [AS.int .i64 (Int.ofNat 0), AS.int .i64 (Int.ofNat 0), AS.int .i64 (Int.ofNat 0), AS.int .i64 (Int.ofNat 0)]) fun g1 h2 => stoN h2 g1 0 4 [AS.int .i64 (Int.ofNat 0), AS.int .i64 (Int.ofNat 0), AS.int .i64 (Int.ofNat 64), AS.int .i64 (Int.ofNat 64)] fun h3 => rowK h3 g1 fun cs4 => ldG cs4 0 4 fun cs5 => K (AV.agg cs5) h3
theorem E_quad_whole (lf : Nat) (cl : Cl) : PK.Eq [] (evFn PG cl noL noR noJ lf Tryz.f84) (B_quad_whole lf cl) := by intro  H K; kernel_rfl
theorem O_quad_whole (lf : Nat) (w0 : World) : OkB PG w0 i_quad_whole (PK.run [] (B_quad_whole lf)) := okb mix (fn := Tryz.f84) rfl (E_quad_whole lf)

/-- (*vedette/quad.Tree).remove -/
def B_quad_Tree_remove (lf : Nat) (cl : Cl) (q0 : AP) (q1 : AP) (q2 : List AS) (q3 : Int) (H : AH) (K : AV → AH → Bool) : Bool :=
  newK H (.row q2) fun g1 h2 => newK h2 (.row [AS.int .i64 q3]) fun g3 h4 => nilK q1 fun g5 o6 => fN (Nat.add o6 0) fun o7 => rowK h4 g5 fun cs8 => ldI cs8 o7 .i64 fun n9 => w64 (iSub n9 (Int.ofNat 1)) fun n10 => nilK q1 fun g11 o12 => fN (Nat.add o12 0) fun o13 => sto1 h4 g11 o13 (AS.int .i64 n10) fun h14 => nilK q1 fun g15 o16 => fN (Nat.add o16 2) fun o17 => rowK h14 g15 fun cs18 => ldP cs18 o17 fun p19 => fB (isNilP p19) fun b20 => ifA b20 (nilK q1 fun g21 o22 => fN (Nat.add o22 1) fun o23 => rowK h14 g21 fun cs24 => ldSl cs24 o23 fun p25 l25 c25 z25 => cl i_slices_DeleteFunc_int [AV.s (AS.slice p25 l25 c25 z25), AV.s (AS.func i_quad_Tree_remove_1 [] [AS.ptr (.at g3 0)])] h14 fun r26 h27 => asSl r26 fun p28 l28 c28 z28 => nilK q1 fun g29 o30 => fN (Nat.add o30 1) fun o31 => sto1 h27 g29 o31 (AS.slice p28 l28 c28 z28) fun h32 => K (AV.tup []) h32) (rowK h14 g1 fun cs33 => ldG cs33 0 4 fun cs34 => nilK q0 fun g35 o36 => fN (Nat.add o36 0) fun o37 => rowK h14 g35 fun cs38 => ldM cs38 o37 fun r39 => rowK h14 g3 fun cs40 => ldI cs40 0 .i64 fun n41 => asMp (AV.s (AS.map r39)) fun g45 => mapK h14 g45 fun es42 => lkZ es42 n41 (AV.agg [AS.int .i64 (Int.ofNat 0), AS.int .i64 (Int.ofNat 0)]) fun v43 b44 => asG v43 fun cs46 => cl i_quad_which [AV.agg cs34, AV.agg cs46] h14 fun r47 h48 => arI r47 .i64 fun n49 => nilK q1 fun g50 o51 => fN (Nat.add o51 2) fun o52 => getK h48 g50 fun k53 => rowK h48 g50 fun cs54 => ldP cs54 o52 fun p55 => nilK p55 fun g56 o57 => idxK n49 4 fun m58 => fN (Nat.add o57 (Nat.mul m58 3)) fun o59 => rowK h48 g1 fun cs60 => ldG cs60 0 4 fun cs61 => getK h48 g3 fun k62 => rowK h48 g3 fun cs63 => ldI cs63 0 .i64 fun n64 => cl i_quad_quarter [AV.agg cs61, AV.s (AS.int .i64 n49)] h48 fun r65 h66 => okK (kSame ((g3, k62) :: ((g50, k53) :: [])) h66) (asG r65 fun cs67 => cl i_quad_Tree_remove [AV.s (AS.ptr q0), AV.s (AS.ptr (.at g56 o59)), AV.agg cs67, AV.s (AS.int .i64 n64)] h66 fun r68 h69 => tup0 r68 (nilK q1 fun g70 o71 => fN (Nat.add o71 0) fun o72 => rowK h69 g70 fun cs73 => ldI cs73 o72 .i64 fun n74 => fB (iLe n74 (Int.ofNat 4)) fun b75 => ifA b75 (cl i_quad_square_all [AV.s (AS.ptr q1)] h69 fun r76 h77 => asSl r76 fun p78 l78 c78 z78 => nilK q1 fun g79 o80 => fN (Nat.add o80 1) fun o81 => sto1 h77 g79 o81 (AS.slice p78 l78 c78 z78) fun h82 => nilK q1 fun g83 o84 => fN (Nat.add o84 2) fun o85 => sto1 h82 g83 o85 (AS.ptr AP.nil) fun h86 => K (AV.tup []) h86) (K (AV.tup []) h69))))
def R_quad_Tree_remove : Nat → RegHint := fun id => match id with
  | 4 => ⟨(.op 0 (.op 1 (.op 2 (.op 3 (.op 4 (.op 5 (.op 6 (.op 7 (.op 8 .nil))))))))), 0, 0, 7, 0⟩
  | 5 => ⟨(.op 0 (.op 1 (.op 2 (.op 3 (.op 4 (.op 5 (.op 6 (.op 7 (.op 8 (.op 9 (.op 11 (.op 10 (.op 12 .nil))))))))))))), 1024, 2064, 11, 0⟩
  | _ => ⟨.nil, 0, 0, 0, 0⟩
theorem E_quad_Tree_remove (lf : Nat) (cl : Cl) : PK.Eq [.ptr, .ptr, .agg, .int .i64] (evFn PG cl noL R_quad_Tree_remove noJ lf Tryz.f86) (B_quad_Tree_remove lf cl) := by intro q0 q1 q2 q3 H K; kernel_rfl
theorem O_quad_Tree_remove (lf : Nat) (w0 : World) : OkB PG w0 i_quad_Tree_remove (PK.run [.ptr, .ptr, .agg, .int .i64] (B_quad_Tree_remove lf)) := okb mix (fn := Tryz.f86) rfl (E_quad_Tree_remove lf)

/-- (*vedette/quad.Tree).add -/
def B_quad_Tree_add (lf : Nat) (cl : Cl) (q0 : AP) (q1 : AP) (q2 : List AS) (q3 : Int) (q4 : Int) (H : AH) (K : AV → AH → Bool) : Bool :=
  newK H (.row q2) fun g1 h2 => (loopX lf (fun (self5 : (AP × AP × Int × Int × AP) → AH → Bool) (x3 : AP × AP × Int × Int × AP) (h4 : AH) => pR x3 fun p6 r7 => pR r7 fun p8 r9 => pR r9 fun n10 r11 => pR r11 fun n12 r13 => nilK p8 fun g15 o16 => fN (Nat.add o16 0) fun o17 => rowK h4 g15 fun cs18 => ldI cs18 o17 .i64 fun n19 => w64 (iAdd n19 (Int.ofNat 1)) fun n20 => nilK p8 fun g21 o22 => fN (Nat.add o22 0) fun o23 => sto1 h4 g21 o23 (AS.int .i64 n20) fun h24 => nilK p8 fun g25 o26 => fN (Nat.add o26 2) fun o27 => rowK h24 g25 fun cs28 => ldP cs28 o27 fun p29 => fB (!isNilP p29) fun b30 => ifA b30 (nilK r13 fun g31 o32 => rowK h24 g31 fun cs33 => ldG cs33 o32 4 fun cs34 => nilK p6 fun g35 o36 => fN (Nat.add o36 0) fun o37 => rowK h24 g35 fun cs38 => ldM cs38 o37 fun r39 => asMp (AV.s (AS.map r39)) fun g43 => mapK h24 g43 fun es40 => lkZ es40 n12 (AV.agg [AS.int .i64 (Int.ofNat 0), AS.int .i64 (Int.ofNat 0)]) fun v41 b42 => asG v41 fun cs44 => cl i_quad_which [AV.agg cs34, AV.agg cs44] h24 fun r45 h46 => arI r45 .i64 fun n47 => nilK p8 fun g48 o49 => fN (Nat.add o49 2) fun o50 => getK h46 g48 fun k51 => rowK h46 g48 fun cs52 => ldP cs52 o50 fun p53 => nilK p53 fun g54 o55 => idxK n47 4 fun m56 => fN (Nat.add o55 (Nat.mul m56 3)) fun o57 => nilK r13 fun g58 o59 => rowK h46 g58 fun cs60 => ldG cs60 o59 4 fun cs61 => w64 (iAdd n10 (Int.ofNat 1)) fun n62 => cl i_quad_quarter [AV.agg cs61, AV.s (AS.int .i64 n47)] h46 fun r63 h64 => okK (kSame ((g48, k51) :: []) h64) (asG r63 fun cs65 => nilK r13 fun g66 o67 => stoN h64 g66 o67 4 cs65 fun h68 => self5 (p6, (.at g54 o57), n62, n12, r13) h68)) (joinX (fun (x76 : AP × AP × Int × Int × AP × Bool) (h77 : AH) => pR x76 fun p79 r80 => pR r80 fun p81 r82 => pR r82 fun n83 r84 => pR r84 fun n85 r86 => pR r86 fun p87 r88 => ifA r88 (nilK p81 fun g90 o91 => fN (Nat.add o91 1) fun o92 => rowK h77 g90 fun cs93 => ldSl cs93 o92 fun p94 l94 c94 z94 => newK h77 (.row [AS.int .i64 n85]) fun g95 h96 => elK h96 (.at g95 0) 1 1 fun ys97 => appA h96 p94 l94 z94 1 8 ys97 1 c94 fun p99 l99 c99 z99 h98 => nilK p81 fun g100 o101 => fN (Nat.add o101 1) fun o102 => sto1 h98 g100 o102 (AS.slice p99 l99 c99 z99) fun h103 => K (AV.tup []) h103) (nilK p81 fun g104 o105 => fN (Nat.add o105 1) fun o106 => rowK h77 g104 fun cs107 => ldSl cs107 o106 fun p108 l108 c108 z108 => newK h77 (.row [AS.int .i64 n85]) fun g109 h110 => elK h110 (.at g109 0) 1 1 fun ys111 => appA h110 p108 l108 z108 1 8 ys111 1 c108 fun p113 l113 c113 z113 h112 => newK h112 (.row [AS.int .i64 (Int.ofNat 0), AS.slice AP.nil 0 (.lit 0) 1, AS.ptr AP.nil, AS.int .i64 (Int.ofNat 0), AS.slice AP.nil 0 (.lit 0) 1, AS.ptr AP.nil, AS.int .i64 (Int.ofNat 0), AS.slice AP.nil 0 (.lit 0) 1, AS.ptr AP.nil, AS.int .i64 (Int.ofNat 0), AS.slice AP.nil 0 (.lit 0) 1, AS.ptr AP.nil]) fun g114 h115 => nilK p81 fun g116 o117 => fN (Nat.add o117 1) fun o118 => sto1 h115 g116 o118 (AS.slice AP.nil 0 (.lit 0) 1) fun h119 => nilK p81 fun g120 o121 => fN (Nat.add o121 2) fun o122 => sto1 h119 g120 o122 (AS.ptr (.at g114 0)) fun h123 => (loopX lf (fun (self126 : (AP × AP × Int × AP × (AP × Nat × ACap × Nat) × Int × Int) → AH → Bool) (x124 : AP × AP × Int × AP × (AP × Nat × ACap × Nat) × Int × Int) (h125 : AH) => pR x124 fun p127 r128 => pR r128 fun p129 r130 => pR r130 fun n131 r132 => pR r132 fun p133 r134 => pR r134 fun u135 r135 => pR u135 fun p135 r135a => pR r135a fun l135 r135b => pR r135b fun c135 z135 => pR r135 fun n136 r137 => fB (iLt r137 n136) fun b139 => ifA b139 (nilK p135 fun g140 o141 => idxK r137 l135 fun m142 => fN (Nat.add o141 (Nat.mul m142 1)) fun o143 => rowK h125 g140 fun cs144 => ldI cs144 o143 .i64 fun n145 => nilK p133 fun g146 o147 => rowK h125 g146 fun cs148 => ldG cs148 o147 4 fun cs149 => nilK p127 fun g150 o151 => fN (Nat.add o151 0) fun o152 => rowK h125 g150 fun cs153 => ldM cs153 o152 fun r154 => asMp (AV.s (AS.map r154)) fun g158 => mapK h125 g158 fun es155 => lkZ es155 n145 (AV.agg [AS.int .i64 (Int.ofNat 0), AS.int .i64 (Int.ofNat 0)]) fun v156 b157 => asG v156 fun cs159 => cl i_quad_which [AV.agg cs149, AV.agg cs159] h125 fun r160 h161 => arI r160 .i64 fun n162 => nilK p129 fun g163 o164 => fN (Nat.add o164 2) fun o165 => getK h161 g163 fun k166 => rowK h161 g163 fun cs167 => ldP cs167 o165 fun p168 => nilK p168 fun g169 o170 => idxK n162 4 fun m171 => fN (Nat.add o170 (Nat.mul m171 3)) fun o172 => nilK p133 fun g173 o174 => rowK h161 g173 fun cs175 => ldG cs175 o174 4 fun cs176 => w64 (iAdd n131 (Int.ofNat 1)) fun n177 => cl i_quad_quarter [AV.agg cs176, AV.s (AS.int .i64 n162)] h161 fun r178 h179 => okK (kSame ((g163, k166) :: []) h179) (asG r178 fun cs180 => cl i_quad_Tree_add [AV.s (AS.ptr p127), AV.s (AS.ptr (.at g169 o172)), AV.agg cs180, AV.s (AS.int .i64 n177), AV.s (AS.int .i64 n145)] h179 fun r181 h182 => tup0 r181 (w64 (iAdd r137 (Int.ofNat 1)) fun n183 => self126 (p127, p129, n131, p133, (p135, l135, c135, z135), n136, n183) h182))) (K (AV.tup []) h125)) (p79, p81, n83, p87, (p113, l113, c113, z113), (Int.ofNat l113), (Int.ofNat 0)) h123))) fun J78 => nilK p8 fun g69 o70 => fN (Nat.add o70 0) fun o71 => rowK h24 g69 fun cs72 => ldI cs72 o71 .i64 fun n73 => fB (iLe n73 (Int.ofNat 4)) fun b74 => ifA b74 (J78 (p6, p8, n10, n12, r13, true) h24) (fB (iEq n10 (Int.ofNat 4)) fun b75 => J78 (p6, p8, n10, n12, r13, b75) h24))) (q0, q1, q3, q4, (.at g1 0)) h2)
def L_quad_Tree_add : Nat → LoopA := fun id => match id with
  | 1 => ⟨AP × AP × Int × Int × AP, (.pair (EncA.ptr 0) (.pair (EncA.ptr 1) (.pair (EncA.int .i64 3) (.pair (EncA.int .i64 4) (EncA.ptr 7)))))⟩
  | 10 => ⟨AP × AP × Int × AP × (AP × Nat × ACap × Nat) × Int × Int, (.pair (EncA.ptr 0) (.pair (EncA.ptr 1) (.pair (EncA.int .i64 3) (.pair (EncA.ptr 7) (.pair (EncA.slice 83) (.pair (EncA.int .i64 84) (EncA.int .i64 85)))))))⟩
  | _ => noA
def R_quad_Tree_add : Nat → RegHint := fun id => match id with
  | 3 => ⟨(.op 0 (.op 1 (.op 2 (.op 3 (.op 4 (.op 5 (.op 6 (.op 7 (.op 8 .nil))))))))), 0, 0, 7, 0⟩
  | 4 => ⟨(.op 0 (.op 1 (.op 2 (.op 3 (.op 4 (.op 5 (.op 6 (.op 7 (.op 8 (.op 10 (.op 11 (.op 9 (.op 12 (.op 13 (.op 14 .nil))))))))))))))), 512, 8, 11, 0⟩
  | 12 => ⟨(.op 0 (.op 1 (.op 2 (.op 3 (.op 4 (.op 5 (.op 6 (.op 7 (.op 8 .nil))))))))), 0, 0, 7, 0⟩
  | 13 => ⟨(.op 0 (.op 1 (.op 2 (.op 3 (.op 4 (.op 5 (.op 6 (.op 7 (.op 8 (.op 9 (.op 11 (.op 12 (.op 13 (.op 10 (.op 14 .nil))))))))))))))), 1024, 16, 13, 0⟩
  | _ => ⟨.nil, 0, 0, 0, 0⟩
def J_quad_Tree_add : Option Nat → Option LoopA := fun id => match id with
  | some 6 => some ⟨AP × AP × Int × Int × AP × Bool, (.pair (EncA.ptr 0) (.pair (EncA.ptr 1) (.pair (EncA.int .i64 3) (.pair (EncA.int .i64 4) (.pair (EncA.ptr 7) (EncA.bool 48))))))⟩
  | _ => none
theorem E_quad_Tree_add (lf : Nat) (cl : Cl) : PK.Eq [.ptr, .ptr, .agg, .int .i64, .int .i64] (evFn PG cl L_quad_Tree_add R_quad_Tree_add J_quad_Tree_add lf Tryz.f87) (B_quad_Tree_add lf cl) := by intro q0 q1 q2 q3 q4 H K; kernel_rfl
theorem O_quad_Tree_add (lf : Nat) (w0 : World) : OkB PG w0 i_quad_Tree_add (PK.run [.ptr, .ptr, .agg, .int .i64, .int .i64] (B_quad_Tree_add lf)) := okb mix (fn := Tryz.f87) rfl (E_quad_Tree_add lf)

/-- vedette/quad.quarter -/
def B_quad_quarter (lf : Nat) (cl : Cl) (q0 : List AS) (q1 : Int) (H : AH) (K : AV → AH → Bool) : Bool :=
  newK H (.row q0) fun g1 h2 => newK h2 (.row [AS.int .i64 (Int.ofNat 0), AS.int .i64 (Int.ofNat 0), AS.int .i64 (Int.ofNat 0), AS.int .i64 (Int.ofNat 0)]) fun g3 h4 => rowK h4 g1 fun cs5 => ldI cs5 2 .i64 fun n6 => rowK h4 g1 fun cs7 => ldI cs7 0 .i64 fun n8 => w64 (iSub n6 n8) fun n9 => w64 (Int.tdiv n9 (Int.ofNat 2)) fun n10 => rowK h4 g1 fun cs11 => ldI cs11 0 .i64 fun n12 => fI (Int.tmod q1 (Int.ofNat 2)) fun n13 => w64 (iMul n10 n13) fun n14 => w64 (iAdd n12 n14) fun n15 => rowK h4 g1 fun cs16 => ldI cs16 1 .i64 fun n17 => w64 (Int.tdiv q1 (Int.ofNat 2)) fun n18 => w64 (iMul n10 n18) fun n19 => w64 (iAdd n17 n19) fun n20 => w64 (iAdd n15 n10) fun n21 => w64 (iAdd n20 n10) fun n22 => stoN h4 g3 0 4 [AS.int .i64 n15, AS.int .i64 n20, AS.int .i64 n21, AS.int .i64 n22] fun h23 => rowK h23 g3 fun cs24 => ldG cs24 0 4 fun cs25 => K (AV.agg cs25) h23
def R_quad_quarter : Nat → RegHint := fun id => match id with
  | 2 => ⟨(.op 0 (.op 1 (.op 2 (.op 3 (.op 4 (.op 5 (.op 6 (.op 7 (.op 8 (.op 9 (.op 10 (.op 11 (.op 12 (.op 13 (.op 14 (.op 15 .nil)))))))))))))))), 0, 0, 16, 0⟩
  | _ => ⟨.nil, 0, 0, 0, 0⟩
theorem E_quad_quarter (lf : Nat) (cl : Cl) : PK.Eq [.agg, .int .i64] (evFn PG cl noL R_quad_quarter noJ lf Tryz.f106) (B_quad_quarter lf cl) := by intro q0 q1 H K; kernel_rfl
theorem O_quad_quarter (lf : Nat) (w0 : World) : OkB PG w0 i_quad_quarter (PK.run [.agg, .int .i64] (B_quad_quarter lf)) := okb mix (fn := Tryz.f106) rfl (E_quad_quarter lf)

/-- (*vedette/quad.Tree).remove$1 -/
def B_quad_Tree_remove_1 (lf : Nat) (cl : Cl) (q0 : Int) (q1 : AP) (H : AH) (K : AV → AH → Bool) : Bool :=
  nilK q1 fun g1 o2 => rowK H g1 fun cs3 => ldI cs3 o2 .i64 fun n4 => fB (iEq q0 n4) fun b5 => K (AV.s (AS.bool b5)) H
theorem E_quad_Tree_remove_1 (lf : Nat) (cl : Cl) : PK.Eq [.int .i64, .ptr] (evFn PG cl noL noR noJ lf Tryz.f108) (B_quad_Tree_remove_1 lf cl) := by intro q0 q1 H K; kernel_rfl
theorem O_quad_Tree_remove_1 (lf : Nat) (w0 : World) : OkB PG w0 i_quad_Tree_remove_1 (PK.run [.int .i64, .ptr] (B_quad_Tree_remove_1 lf)) := okb mix (fn := Tryz.f108) rfl (E_quad_Tree_remove_1 lf)

/-- vedette/quad.which -/
def B_quad_which (lf : Nat) (cl : Cl) (q0 : List AS) (q1 : List AS) (H : AH) (K : AV → AH → Bool) : Bool :=
  newK H (.row q0) fun g1 h2 => newK h2 (.row q1) fun g3 h4 => joinX (fun (x15 : AP × AP × Int) (h16 : AH) => pR x15 fun p18 r19 => pR r19 fun p20 r21 => nilK p20 fun g23 o24 => fN (Nat.add o24 1) fun o25 => rowK h16 g23 fun cs26 => ldI cs26 o25 .i64 fun n27 => nilK p18 fun g28 o29 => fN (Nat.add o29 1) fun o30 => rowK h16 g28 fun cs31 => ldI cs31 o30 .i64 fun n32 => nilK p18 fun g33 o34 => fN (Nat.add o34 3) fun o35 => rowK h16 g33 fun cs36 => ldI cs36 o35 .i64 fun n37 => w64 (iAdd n32 n37) fun n38 => w64 (Int.tdiv n38 (Int.ofNat 2)) fun n39 => fB (iLe n39 n27) fun b40 => ifA b40 (w64 (iAdd r21 (Int.ofNat 2)) fun n41 => K (AV.s (AS.int .i64 n41)) h16) (K (AV.s (AS.int .i64 r21)) h16)) fun J17 => rowK h4 g3 fun cs5 => ldI cs5 0 .i64 fun n6 => rowK h4 g1 fun cs7 => ldI cs7 0 .i64 fun n8 => rowK h4 g1 fun cs9 => ldI cs9 2 .i64 fun n10 => w64 (iAdd n8 n10) fun n11 => w64 (Int.tdiv n11 (Int.ofNat 2)) fun n12 => fB (iLe n12 n6) fun b13 => ifA b13 (w64 (iAdd (Int.ofNat 0) (Int.ofNat 1)) fun n14 => J17 ((.at g1 0), (.at g3 0), n14) h4) (J17 ((.at g1 0), (.at g3 0), (Int.ofNat 0)) h4)
def J_quad_which : Option Nat → Option LoopA := fun id => match id with
  | some 4 => some ⟨AP × AP × Int, (.pair (EncA.ptr 2) (.pair (EncA.ptr 3) (EncA.int .i64 5)))⟩
  | _ => none
theorem E_quad_which (lf : Nat) (cl : Cl) : PK.Eq [.agg, .agg] (evFn PG cl noL noR J_quad_which lf Tryz.f109) (B_quad_which lf cl) := by intro q0 q1 H K; kernel_rfl
theorem O_quad_which (lf : Nat) (w0 : World) : OkB PG w0 i_quad_which (PK.run [.agg, .agg] (B_quad_which lf)) := okb mix (fn := Tryz.f109) rfl (E_quad_which lf)

/-- (*vedette/quad.square).all -/
def B_quad_square_all (lf : Nat) (cl : Cl) (q0 : AP) (H : AH) (K : AV → AH → Bool) : Bool :=
  nilK q0 fun g1 o2 => fN (Nat.add o2 1) fun o3 => rowK H g1 fun cs4 => ldSl cs4 o3 fun p5 l5 c5 z5 => cl i_slices_Clone_int [AV.s (AS.slice p5 l5 c5 z5)] H fun r6 h7 => asSl r6 fun p8 l8 c8 z8 => (loopX lf (fun (self11 : (AP × (AP × Nat × ACap × Nat) × Int) → AH → Bool) (x9 : AP × (AP × Nat × ACap × Nat) × Int) (h10 : AH) => pR x9 fun p12 r13 => pR r13 fun u14 r14 => pR u14 fun p14 r14a => pR r14a fun l14 r14b => pR r14b fun c14 z14 => nilK p12 fun g16 o17 => fN (Nat.add o17 2) fun o18 => rowK h10 g16 fun cs19 => ldP cs19 o18 fun p20 => fB (!isNilP p20) fun b21 => ifA b21 (fB (iLt r14 (Int.ofNat 4)) fun b22 => ifA b22 (nilK p12 fun g23 o24 => fN (Nat.add o24 2) fun o25 => rowK h10 g23 fun cs26 => ldP cs26 o25 fun p27 => nilK p27 fun g28 o29 => idxK r14 4 fun m30 => fN (Nat.add o29 (Nat.mul m30 3)) fun o31 => cl i_quad_square_all [AV.s (AS.ptr (.at g28 o31))] h10 fun r32 h33 => asSl r32 fun p34 l34 c34 z34 => elK h33 p34 l34 1 fun ys35 => appA h33 p14 l14 z14 1 8 ys35 l34 c14 fun p37 l37 c37 z37 h36 => w64 (iAdd r14 (Int.ofNat 1)) fun n38 => self11 (p12, (p37, l37, c37, z37), n38) h36) (K (AV.s (AS.slice p14 l14 c14 z14)) h10)) (K (AV.s (AS.slice p14 l14 c14 z14)) h10)) (q0, (p8, l8, c8, z8), (Int.ofNat 0)) h7)
def L_quad_square_all : Nat → LoopA := fun id => match id with
  | 3 => ⟨AP × (AP × Nat × ACap × Nat) × Int, (.pair (EncA.ptr 0) (.pair (EncA.slice 3) (EncA.int .i64 4)))⟩
  | _ => noA
theorem E_quad_square_all (lf : Nat) (cl : Cl) : PK.Eq [.ptr] (evFn PG cl L_quad_square_all noR noJ lf Tryz.f110) (B_quad_square_all lf cl) := by intro q0 H K; kernel_rfl
theorem O_quad_square_all (lf : Nat) (w0 : World) : OkB PG w0 i_quad_square_all (PK.run [.ptr] (B_quad_square_all lf)) := okb mix (fn := Tryz.f110) rfl (E_quad_square_all lf)

end
end Go.Proofs
end
section
namespace Go.Proofs
open Go Go.Vw Go.Vw.Ev
set_option maxRecDepth 100000
set_option maxHeartbeats 4000000
set_option linter.unusedVariables false
noncomputable section
/-- slices.Sorted[int] -/
def B_slices_Sorted_int (lf : Nat) (cl : Cl) (q0 : AV) (H : AH) (K : AV → AH → Bool) : Bool :=
  cl i_slices_Collect_int [q0] H fun r1 h2 => asSl r1 fun p3 l3 c3 z3 => cl i_slices_Sort_int [AV.s (AS.slice p3 l3 c3 z3)] h2 fun r4 h5 => tup0 r4 (K (AV.s (AS.slice p3 l3 c3 z3)) h5)
theorem E_slices_Sorted_int (lf : Nat) (cl : Cl) : PK.Eq [.val] (evFn PG cl noL noR noJ lf Tryz.f29) (B_slices_Sorted_int lf cl) := by intro q0 H K; kernel_rfl
theorem O_slices_Sorted_int (lf : Nat) (w0 : World) : OkB PG w0 i_slices_Sorted_int (PK.run [.val] (B_slices_Sorted_int lf)) := okb mix (fn := Tryz.f29) rfl (E_slices_Sorted_int lf)

/-- slices.Collect[int] -/
def B_slices_Collect_int (lf : Nat) (cl : Cl) (q0 : AV) (H : AH) (K : AV → AH → Bool) : Bool :=
  cl i_slices_AppendSeq_int [AV.s (AS.slice AP.nil 0 (.lit 0) 1), q0] H fun r1 h2 => asSl r1 fun p3 l3 c3 z3 => K (AV.s (AS.slice p3 l3 c3 z3)) h2
theorem E_slices_Collect_int (lf : Nat) (cl : Cl) : PK.Eq [.val] (evFn PG cl noL noR noJ lf Tryz.f50) (B_slices_Collect_int lf cl) := by intro q0 H K; kernel_rfl
theorem O_slices_Collect_int (lf : Nat) (w0 : World) : OkB PG w0 i_slices_Collect_int (PK.run [.val] (B_slices_Collect_int lf)) := okb mix (fn := Tryz.f50) rfl (E_slices_Collect_int lf)

/-- slices.Sort[[]int,int] -/
def B_slices_Sort_int (lf : Nat) (cl : Cl) (q0p : AP) (q0n : Nat) (q0c : ACap) (q0z : Nat) (H : AH) (K : AV → AH → Bool) : Bool :=
  wrapK .u64 ((Int.ofNat q0n)) fun n1 => cl i_math_bits_Len [AV.s (AS.int .u64 n1)] H fun r2 h3 => arI r2 .i64 fun n4 => cl i_slices_pdqsortOrdered_int [AV.s (AS.slice q0p q0n q0c q0z), AV.s (AS.int .i64 (Int.ofNat 0)), AV.s (AS.int .i64 (Int.ofNat q0n)), AV.s (AS.int .i64 n4)] h3 fun r5 h6 => tup0 r5 (K (AV.tup []) h6)
theorem E_slices_Sort_int (lf : Nat) (cl : Cl) : PK.Eq [.slice] (evFn PG cl noL noR noJ lf Tryz.f51) (B_slices_Sort_int lf cl) := by intro q0p q0n q0c q0z H K; kernel_rfl
theorem O_slices_Sort_int (lf : Nat) (w0 : World) : OkB PG w0 i_slices_Sort_int (PK.run [.slice] (B_slices_Sort_int lf)) := okb mix (fn := Tryz.f51) rfl (E_slices_Sort_int lf)

/-- slices.ContainsFunc[[]vedette/api.Field,vedette/api.Field] -/
def B_slices_ContainsFunc_Field (lf : Nat) (cl : Cl) (q0p : AP) (q0n : Nat) (q0c : ACap) (q0z : Nat) (q1 : AV) (H : AH) (K : AV → AH → Bool) : Bool :=
  cl i_slices_IndexFunc_Field [AV.s (AS.slice q0p q0n q0c q0z), q1] H fun r1 h2 => arI r1 .i64 fun n3 => fB (iLe (Int.ofNat 0) n3) fun b4 => K (AV.s (AS.bool b4)) h2
theorem E_slices_ContainsFunc_Field (lf : Nat) (cl : Cl) : PK.Eq [.slice, .val] (evFn PG cl noL noR noJ lf Tryz.f72) (B_slices_ContainsFunc_Field lf cl) := by intro q0p q0n q0c q0z q1 H K; kernel_rfl
theorem O_slices_ContainsFunc_Field (lf : Nat) (w0 : World) : OkB PG w0 i_slices_ContainsFunc_Field (PK.run [.slice, .val] (B_slices_ContainsFunc_Field lf)) := okb mix (fn := Tryz.f72) rfl (E_slices_ContainsFunc_Field lf)

/-- slices.pdqsortOrdered[int] -/
def B_slices_pdqsortOrdered_int (lf : Nat) (cl : Cl) (q0p : AP) (q0n : Nat) (q0c : ACap) (q0z : Nat) (q1 : Int) (q2 : Int) (q3 : Int) (H : AH) (K : AV → AH → Bool) : Bool :=
  (loopX lf (fun (self3 : ((AP × Nat × ACap × Nat) × Int × Int × Int × Bool × Bool) → AH → Bool) (x1 : (AP × Nat × ACap × Nat) × Int × Int × Int × Bool × Bool) (h2 : AH) => pR x1 fun u4 r4 => pR u4 fun p4 r4a => pR r4a fun l4 r4b => pR r4b fun c4 z4 => pR r4 fun n5 r6 => pR r6 fun n7 r8 => pR r8 fun n9 r10 => pR r10 fun b11 r12 => w64 (iSub n7 n5) fun n14 => fB (iLe n14 (Int.ofNat 12)) fun b15 => ifA b15 (cl i_slices_insertionSortOrdered_int [AV.s (AS.slice p4 l4 c4 z4), AV.s (AS.int .i64 n5), AV.s (AS.int .i64 n7)] h2 fun r16 h17 => tup0 r16 (K (AV.tup []) h17)) (fB (iEq n9 (Int.ofNat 0)) fun b18 => ifA b18 (cl i_slices_heapSortOrdered_int [AV.s (AS.slice p4 l4 c4 z4), AV.s (AS.int .i64 n5), AV.s (AS.int .i64 n7)] h2 fun r19 h20 => tup0 r19 (K (AV.tup []) h20)) (joinX (fun (x25 : (AP × Nat × ACap × Nat) × Int × Int × Int × Bool × Bool × Int) (h26 : AH) => pR x25 fun u28 r28 => pR u28 fun p28 r28a => pR r28a fun l28 r28b => pR r28b fun c28 z28 => pR r28 fun n29 r30 => pR r30 fun n31 r32 => pR r32 fun n33 r34 => pR r34 fun b35 r36 => pR r36 fun b37 r38 => cl i_slices_choosePivotOrdered_int [AV.s (AS.slice p28 l28 c28 z28), AV.s (AS.int .i64 n29), AV.s (AS.int .i64 n31)] h26 fun r40 h41 => tup2 r40 fun x42 x43 => arI x42 .i64 fun n44 => arI x43 .i64 fun n45 => joinX (fun (x52 : (AP × Nat × ACap × Nat) × Int × Int × Int × Bool × Bool × Int × Int × Int) (h53 : AH) => pR x52 fun u55 r55 => pR u55 fun p55 r55a => pR r55a fun l55 r55b => pR r55b fun c55 z55 => pR r55 fun n56 r57 => pR r57 fun n58 r59 => pR r59 fun n60 r61 => pR r61 fun b62 r63 => pR r63 fun b64 r65 => pR r65 fun n66 r67 => pR r67 fun n68 r69 => joinX (fun (x94 : (AP × Nat × ACap × Nat) × Int × Int × Int × Bool × Bool × Int × Int) (h95 : AH) => pR x94 fun u97 r97 => pR u97 fun p97 r97a => pR r97a fun l97 r97b => pR r97b fun c97 z97 => pR r97 fun n98 r99 => pR r99 fun n100 r101 => pR r101 fun n102 r103 => pR r103 fun b104 r105 => pR r105 fun b106 r107 => pR r107 fun n108 r109 => joinX (fun (x129 : (AP × Nat × ACap × Nat) × Int × Int × Int × Bool × Bool × Int × Int × Bool) (h130 : AH) => pR x129 fun u132 r132 => pR u132 fun p132 r132a => pR r132a fun l132 r132b => pR r132b fun c132 z132 => pR r132 fun n133 r134 => pR r134 fun n135 r136 => pR r136 fun n137 r138 => pR r138 fun b139 r140 => pR r140 fun b141 r142 => pR r142 fun n143 r144 => pR r144 fun n145 r146 => ifA r146 (cl i_slices_partitionEqualOrdered_int [AV.s (AS.slice p132 l132 c132 z132), AV.s (AS.int .i64 n133), AV.s (AS.int .i64 n135), AV.s (AS.int .i64 n145)] h130 fun r148 h149 => arI r148 .i64 fun n150 => self3 ((p132, l132, c132, z132), n150, n135, n137, b139, b141) h149) (cl i_slices_partitionOrdered_int [AV.s (AS.slice p132 l132 c132 z132), AV.s (AS.int .i64 n133), AV.s (AS.int .i64 n135), AV.s (AS.int .i64 n145)] h130 fun r151 h152 => tup2 r151 fun x153 x154 => arI x153 .i64 fun n155 => arB x154 fun b156 => w64 (iSub n155 n133) fun n157 => w64 (iSub n135 n155) fun n158 => w64 (Int.tdiv n143 (Int.ofNat 8)) fun n159 => fB (iLt n157 n158) fun b160 => ifA b160 (fB (iLe n159 n157) fun b161 => cl i_slices_pdqsortOrdered_int [AV.s (AS.slice p132 l132 c132 z132), AV.s (AS.int .i64 n133), AV.s (AS.int .i64 n155), AV.s (AS.int .i64 n137)] h152 fun r162 h163 => tup0 r162 (w64 (iAdd n155 (Int.ofNat 1)) fun n164 => self3 ((p132, l132, c132, z132), n164, n135, n137, b161, b156) h163)) (fB (iLe n159 n158) fun b165 => w64 (iAdd n155 (Int.ofNat 1)) fun n166 => cl i_slices_pdqsortOrdered_int [AV.s (AS.slice p132 l132 c132 z132), AV.s (AS.int .i64 n166), AV.s (AS.int .i64 n135), AV.s (AS.int .i64 n137)] h152 fun r167 h168 => tup0 r167 (self3 ((p132, l132, c132, z132), n133, n155, n137, b165, b156) h168)))) fun J131 => fB (iLt (Int.ofNat 0) n98) fun b111 => ifA b111 (w64 (iSub n98 (Int.ofNat 1)) fun n112 => nilK p97 fun g113 o114 => idxK n112 l97 fun m115 => fN (Nat.add o114 (Nat.mul m115 1)) fun o116 => rowK h95 g113 fun cs117 => ldI cs117 o116 .i64 fun n118 => nilK p97 fun g119 o120 => idxK r109 l97 fun m121 => fN (Nat.add o120 (Nat.mul m121 1)) fun o122 => rowK h95 g119 fun cs123 => ldI cs123 o122 .i64 fun n124 => cl i_cmp_Less_int [AV.s (AS.int .i64 n118), AV.s (AS.int .i64 n124)] h95 fun r125 h126 => arB r125 fun b127 => fB (!b127) fun b128 => J131 ((p97, l97, c97, z97), n98, n100, n102, b104, b106, n108, r109, b128) h126) (J131 ((p97, l97, c97, z97), n98, n100, n102, b104, b106, n108, r109, false) h95)) fun J96 => joinX (fun (x72 : (AP × Nat × ACap × Nat) × Int × Int × Int × Bool × Bool × Int × Int × Bool) (h73 : AH) => pR x72 fun u75 r75 => pR u75 fun p75 r75a => pR r75a fun l75 r75b => pR r75b fun c75 z75 => pR r75 fun n76 r77 => pR r77 fun n78 r79 => pR r79 fun n80 r81 => pR r81 fun b82 r83 => pR r83 fun b84 r85 => pR r85 fun n86 r87 => pR r87 fun n88 r89 => ifA r89 (cl i_slices_partialInsertionSortOrdered_int [AV.s (AS.slice p75 l75 c75 z75), AV.s (AS.int .i64 n76), AV.s (AS.int .i64 n78)] h73 fun r91 h92 => arB r91 fun b93 => ifA b93 (K (AV.tup []) h92) (J96 ((p75, l75, c75, z75), n76, n78, n80, b82, b84, n86, n88) h92)) (J96 ((p75, l75, c75, z75), n76, n78, n80, b82, b84, n86, n88) h73)) fun J74 => ifA b62 (ifA b64 (fB (iEq r69 (Int.ofNat 1)) fun b71 => J74 ((p55, l55, c55, z55), n56, n58, n60, b62, b64, n66, n68, b71) h53) (J74 ((p55, l55, c55, z55), n56, n58, n60, b62, b64, n66, n68, false) h53)) (J74 ((p55, l55, c55, z55), n56, n58, n60, b62, b64, n66, n68, false) h53)) fun J54 => fB (iEq n45 (Int.ofNat 2)) fun b46 => ifA b46 (cl i_slices_reverseRangeOrdered_int [AV.s (AS.slice p28 l28 c28 z28), AV.s (AS.int .i64 n29), AV.s (AS.int .i64 n31)] h41 fun r47 h48 => tup0 r47 (w64 (iSub n31 (Int.ofNat 1)) fun n49 => w64 (iSub n44 n29) fun n50 => w64 (iSub n49 n50) fun n51 => J54 ((p28, l28, c28, z28), n29, n31, n33, b35, b37, r38, n51, (Int.ofNat 1)) h48)) (J54 ((p28, l28, c28, z28), n29, n31, n33, b35, b37, r38, n44, n45) h41)) fun J27 => fB (!b11) fun b21 => ifA b21 (cl i_slices_breakPatternsOrdered_int [AV.s (AS.slice p4 l4 c4 z4), AV.s (AS.int .i64 n5), AV.s (AS.int .i64 n7)] h2 fun r22 h23 => tup0 r22 (w64 (iSub n9 (Int.ofNat 1)) fun n24 => J27 ((p4, l4, c4, z4), n5, n7, n24, b11, r12, n14) h23)) (J27 ((p4, l4, c4, z4), n5, n7, n9, b11, r12, n14) h2)))) ((q0p, q0n, q0c, q0z), q1, q2, q3, true, true) H)
def L_slices_pdqsortOrdered_int : Nat → LoopA := fun id => match id with
  | 2 => ⟨(AP × Nat × ACap × Nat) × Int × Int × Int × Bool × Bool, (.pair (EncA.slice 0) (.pair (EncA.int .i64 1) (.pair (EncA.int .i64 2) (.pair (EncA.int .i64 3) (.pair (EncA.bool 8) (EncA.bool 9))))))⟩
  | _ => noA
def R_slices_pdqsortOrdered_int : Nat → RegHint := fun id => match id with
  | 17 => ⟨(.op 0 (.op 1 (.op 2 (.op 3 (.op 4 (.op 5 (.op 6 (.op 7 (.op 8 (.op 9 (.op 10 (.op 11 (.op 12 (.op 13 (.op 14 .nil))))))))))))))), 0, 0, 12, 0⟩
  | _ => ⟨.nil, 0, 0, 0, 0⟩
def J_slices_pdqsortOrdered_int : Option Nat → Option LoopA := fun id => match id with
  | some 10 => some ⟨(AP × Nat × ACap × Nat) × Int × Int × Int × Bool × Bool × Int, (.pair (EncA.slice 0) (.pair (EncA.int .i64 1) (.pair (EncA.int .i64 2) (.pair (EncA.int .i64 3) (.pair (EncA.bool 8) (.pair (EncA.bool 9) (EncA.int .i64 10)))))))⟩
  | some 15 => some ⟨(AP × Nat × ACap × Nat) × Int × Int × Int × Bool × Bool × Int × Int × Int, (.pair (EncA.slice 0) (.pair (EncA.int .i64 1) (.pair (EncA.int .i64 2) (.pair (EncA.int .i64 3) (.pair (EncA.bool 8) (.pair (EncA.bool 9) (.pair (EncA.int .i64 10) (.pair (EncA.int .i64 11) (EncA.int .i64 12)))))))))⟩
  | some 16 => some ⟨(AP × Nat × ACap × Nat) × Int × Int × Int × Bool × Bool × Int × Int × Bool, (.pair (EncA.slice 0) (.pair (EncA.int .i64 1) (.pair (EncA.int .i64 2) (.pair (EncA.int .i64 3) (.pair (EncA.bool 8) (.pair (EncA.bool 9) (.pair (EncA.int .i64 10) (.pair (EncA.int .i64 11) (EncA.bool 68)))))))))⟩
  | some 17 => some ⟨(AP × Nat × ACap × Nat) × Int × Int × Int × Bool × Bool × Int × Int, (.pair (EncA.slice 0) (.pair (EncA.int .i64 1) (.pair (EncA.int .i64 2) (.pair (EncA.int .i64 3) (.pair (EncA.bool 8) (.pair (EncA.bool 9) (.pair (EncA.int .i64 10) (EncA.int .i64 11))))))))⟩
  | some 18 => some ⟨(AP × Nat × ACap × Nat) × Int × Int × Int × Bool × Bool × Int × Int × Bool, (.pair (EncA.slice 0) (.pair (EncA.int .i64 1) (.pair (EncA.int .i64 2) (.pair (EncA.int .i64 3) (.pair (EncA.bool 8) (.pair (EncA.bool 9) (.pair (EncA.int .i64 10) (.pair (EncA.int .i64 11) (EncA.bool 87)))))))))⟩
  | _ => none
theorem E_slices_pdqsortOrdered_int (lf : Nat) (cl : Cl) : PK.Eq [.slice, .int .i64, .int .i64, .int .i64] (evFn PG cl L_slices_pdqsortOrdered_int R_slices_pdqsortOrdered_int J_slices_pdqsortOrdered_int lf Tryz.f77) (B_slices_pdqsortOrdered_int lf cl) := by intro q0p q0n q0c q0z q1 q2 q3 H K; kernel_rfl
theorem O_slices_pdqsortOrdered_int (lf : Nat) (w0 : World) : OkB PG w0 i_slices_pdqsortOrdered_int (PK.run [.slice, .int .i64, .int .i64, .int .i64] (B_slices_pdqsortOrdered_int lf)) := okb mix (fn := Tryz.f77) rfl (E_slices_pdqsortOrdered_int lf)

/-- slices.IndexFunc[[]vedette/api.Field,vedette/api.Field] -/
def B_slices_IndexFunc_Field (lf : Nat) (cl : Cl) (q0p : AP) (q0n : Nat) (q0c : ACap) (q0z : Nat) (q1 : AV) (H : AH) (K : AV → AH → Bool) : Bool :=
  (loopX lf (fun (self3 : ((AP × Nat × ACap × Nat) × AV × Int × Int) → AH → Bool) (x1 : (AP × Nat × ACap × Nat) × AV × Int × Int) (h2 : AH) => pR x1 fun u4 r4 => pR u4 fun p4 r4a => pR r4a fun l4 r4b => pR r4b fun c4 z4 => pR r4 fun v5 r6 => pR r6 fun n7 r8 => fB (iLt r8 n7) fun b10 => ifA b10 (nilK p4 fun g11 o12 => idxK r8 l4 fun m13 => fN (Nat.add o12 (Nat.mul m13 2)) fun o14 => rowK h2 g11 fun cs15 => ldG cs15 o14 2 fun cs16 => callV PG cl none (v5) [AV.agg cs16] h2 fun r17 h18 => asB r17 fun b19 => ifA b19 (K (AV.s (AS.int .i64 r8)) h18) (w64 (iAdd r8 (Int.ofNat 1)) fun n20 => self3 ((p4, l4, c4, z4), v5, n7, n20) h18)) (K (AV.s (AS.int .i64 (Int.negSucc 0))) h2)) ((q0p, q0n, q0c, q0z), q1, (Int.ofNat q0n), (Int.ofNat 0)) H)
def L_slices_IndexFunc_Field : Nat → LoopA := fun id => match id with
  | 2 => ⟨(AP × Nat × ACap × Nat) × AV × Int × Int, (.pair (EncA.slice 0) (.pair (EncA.val 1) (.pair (EncA.int .i64 7) (EncA.int .i64 8))))⟩
  | _ => noA
theorem E_slices_IndexFunc_Field (lf : Nat) (cl : Cl) : PK.Eq [.slice, .val] (evFn PG cl L_slices_IndexFunc_Field noR noJ lf Tryz.f85) (B_slices_IndexFunc_Field lf cl) := by intro q0p q0n q0c q0z q1 H K; kernel_rfl
theorem O_slices_IndexFunc_Field (lf : Nat) (w0 : World) : OkB PG w0 i_slices_IndexFunc_Field (PK.run [.slice, .val] (B_slices_IndexFunc_Field lf)) := okb mix (fn := Tryz.f85) rfl (E_slices_IndexFunc_Field lf)

/-- slices.insertionSortOrdered[int] -/
def B_slices_insertionSortOrdered_int (lf : Nat) (cl : Cl) (q0p : AP) (q0n : Nat) (q0c : ACap) (q0z : Nat) (q1 : Int) (q2 : Int) (H : AH) (K : AV → AH → Bool) : Bool :=
  w64 (iAdd q1 (Int.ofNat 1)) fun n1 => (loopX lf (fun (self4 : ((AP × Nat × ACap × Nat) × Int × Int × Int) → AH → Bool) (x2 : (AP × Nat × ACap × Nat) × Int × Int × Int) (h3 : AH) => pR x2 fun u5 r5 => pR u5 fun p5 r5a => pR r5a fun l5 r5b => pR r5b fun c5 z5 => pR r5 fun n6 r7 => pR r7 fun n8 r9 => fB (iLt r9 n8) fun b11 => ifA b11 ((loopX lf (fun (self14 : ((AP × Nat × ACap × Nat) × Int × Int × Int × Int) → AH → Bool) (x12 : (AP × Nat × ACap × Nat) × Int × Int × Int × Int) (h13 : AH) => pR x12 fun u15 r15 => pR u15 fun p15 r15a => pR r15a fun l15 r15b => pR r15b fun c15 z15 => pR r15 fun n16 r17 => pR r17 fun n18 r19 => pR r19 fun n20 r21 => fB (iLt n16 r21) fun b23 => ifA b23 (nilK p15 fun g24 o25 => idxK r21 l15 fun m26 => fN (Nat.add o25 (Nat.mul m26 1)) fun o27 => rowK h13 g24 fun cs28 => ldI cs28 o27 .i64 fun n29 => w64 (iSub r21 (Int.ofNat 1)) fun n30 => nilK p15 fun g31 o32 => idxK n30 l15 fun m33 => fN (Nat.add o32 (Nat.mul m33 1)) fun o34 => rowK h13 g31 fun cs35 => ldI cs35 o34 .i64 fun n36 => cl i_cmp_Less_int [AV.s (AS.int .i64 n29), AV.s (AS.int .i64 n36)] h13 fun r37 h38 => arB r37 fun b39 => ifA b39 (w64 (iSub r21 (Int.ofNat 1)) fun n40 => w64 (iSub r21 (Int.ofNat 1)) fun n41 => nilK p15 fun g42 o43 => idxK n41 l15 fun m44 => fN (Nat.add o43 (Nat.mul m44 1)) fun o45 => rowK h38 g42 fun cs46 => ldI cs46 o45 .i64 fun n47 => nilK p15 fun g48 o49 => idxK r21 l15 fun m50 => fN (Nat.add o49 (Nat.mul m50 1)) fun o51 => rowK h38 g48 fun cs52 => ldI cs52 o51 .i64 fun n53 => nilK p15 fun g54 o55 => idxK r21 l15 fun m56 => fN (Nat.add o55 (Nat.mul m56 1)) fun o57 => sto1 h38 g54 o57 (AS.int .i64 n47) fun h58 => nilK p15 fun g59 o60 => idxK n40 l15 fun m61 => fN (Nat.add o60 (Nat.mul m61 1)) fun o62 => sto1 h58 g59 o62 (AS.int .i64 n53) fun h63 => w64 (iSub r21 (Int.ofNat 1)) fun n64 => self14 ((p15, l15, c15, z15), n16, n18, n20, n64) h63) (w64 (iAdd n20 (Int.ofNat 1)) fun n65 => self4 ((p15, l15, c15, z15), n16, n18, n65) h38)) (w64 (iAdd n20 (Int.ofNat 1)) fun n66 => self4 ((p15, l15, c15, z15), n16, n18, n66) h13)) ((p5, l5, c5, z5), n6, n8, r9, r9) h3)) (K (AV.tup []) h3)) ((q0p, q0n, q0c, q0z), q1, q2, n1) H)
def L_slices_insertionSortOrdered_int : Nat → LoopA := fun id => match id with
  | 1 => ⟨(AP × Nat × ACap × Nat) × Int × Int × Int, (.pair (EncA.slice 0) (.pair (EncA.int .i64 1) (.pair (EncA.int .i64 2) (EncA.int .i64 6))))⟩
  | 4 => ⟨(AP × Nat × ACap × Nat) × Int × Int × Int × Int, (.pair (EncA.slice 0) (.pair (EncA.int .i64 1) (.pair (EncA.int .i64 2) (.pair (EncA.int .i64 6) (EncA.int .i64 7)))))⟩
  | _ => noA
def R_slices_insertionSortOrdered_int : Nat → RegHint := fun id => match id with
  | 4 => ⟨(.op 0 (.op 1 (.op 2 (.op 3 (.op 4 (.op 5 (.op 6 (.op 7 (.op 8 (.op 9 (.op 10 (.op 11 (.op 12 (.op 13 (.op 14 .nil))))))))))))))), 0, 0, 13, 0⟩
  | 6 => ⟨(.op 0 (.op 1 (.op 2 (.op 3 (.op 4 (.op 5 (.op 6 (.op 7 (.op 8 (.op 9 (.op 10 (.op 11 (.op 12 (.op 13 (.op 14 (.op 15 (.op 16 (.op 17 .nil)))))))))))))))))), 0, 0, 15, 0⟩
  | _ => ⟨.nil, 0, 0, 0, 0⟩
theorem E_slices_insertionSortOrdered_int (lf : Nat) (cl : Cl) : PK.Eq [.slice, .int .i64, .int .i64] (evFn PG cl L_slices_insertionSortOrdered_int R_slices_insertionSortOrdered_int noJ lf Tryz.f88) (B_slices_insertionSortOrdered_int lf cl) := by intro q0p q0n q0c q0z q1 q2 H K; kernel_rfl
theorem O_slices_insertionSortOrdered_int (lf : Nat) (w0 : World) : OkB PG w0 i_slices_insertionSortOrdered_int (PK.run [.slice, .int .i64, .int .i64] (B_slices_insertionSortOrdered_int lf)) := okb mix (fn := Tryz.f88) rfl (E_slices_insertionSortOrdered_int lf)

/-- slices.heapSortOrdered[int] -/
def B_slices_heapSortOrdered_int (lf : Nat) (cl : Cl) (q0p : AP) (q0n : Nat) (q0c : ACap) (q0z : Nat) (q1 : Int) (q2 : Int) (H : AH) (K : AV → AH → Bool) : Bool :=
  w64 (iSub q2 q1) fun n1 => w64 (iSub n1 (Int.ofNat 1)) fun n2 => w64 (Int.tdiv n2 (Int.ofNat 2)) fun n3 => (loopX lf (fun (self6 : ((AP × Nat × ACap × Nat) × Int × Int × Int × Int) → AH → Bool) (x4 : (AP × Nat × ACap × Nat) × Int × Int × Int × Int) (h5 : AH) => pR x4 fun u7 r7 => pR u7 fun p7 r7a => pR r7a fun l7 r7b => pR r7b fun c7 z7 => pR r7 fun n8 r9 => pR r9 fun n10 r11 => pR r11 fun n12 r13 => fB (iLe (Int.ofNat 0) r13) fun b15 => ifA b15 (cl i_slices_siftDownOrdered_int [AV.s (AS.slice p7 l7 c7 z7), AV.s (AS.int .i64 r13), AV.s (AS.int .i64 n12), AV.s (AS.int .i64 n8)] h5 fun r16 h17 => tup0 r16 (w64 (iSub r13 (Int.ofNat 1)) fun n18 => self6 ((p7, l7, c7, z7), n8, n10, n12, n18) h17)) (w64 (iSub n12 (Int.ofNat 1)) fun n19 => (loopX lf (fun (self22 : ((AP × Nat × ACap × Nat) × Int × Int × Int) → AH → Bool) (x20 : (AP × Nat × ACap × Nat) × Int × Int × Int) (h21 : AH) => pR x20 fun u23 r23 => pR u23 fun p23 r23a => pR r23a fun l23 r23b => pR r23b fun c23 z23 => pR r23 fun n24 r25 => pR r25 fun n26 r27 => fB (iLe (Int.ofNat 0) r27) fun b29 => ifA b29 (w64 (iAdd n24 r27) fun n30 => w64 (iAdd n24 r27) fun n31 => nilK p23 fun g32 o33 => idxK n31 l23 fun m34 => fN (Nat.add o33 (Nat.mul m34 1)) fun o35 => rowK h21 g32 fun cs36 => ldI cs36 o35 .i64 fun n37 => nilK p23 fun g38 o39 => idxK n24 l23 fun m40 => fN (Nat.add o39 (Nat.mul m40 1)) fun o41 => rowK h21 g38 fun cs42 => ldI cs42 o41 .i64 fun n43 => nilK p23 fun g44 o45 => idxK n24 l23 fun m46 => fN (Nat.add o45 (Nat.mul m46 1)) fun o47 => sto1 h21 g44 o47 (AS.int .i64 n37) fun h48 => nilK p23 fun g49 o50 => idxK n30 l23 fun m51 => fN (Nat.add o50 (Nat.mul m51 1)) fun o52 => sto1 h48 g49 o52 (AS.int .i64 n43) fun h53 => cl i_slices_siftDownOrdered_int [AV.s (AS.slice p23 l23 c23 z23), AV.s (AS.int .i64 n26), AV.s (AS.int .i64 r27), AV.s (AS.int .i64 n24)] h53 fun r54 h55 => tup0 r54 (w64 (iSub r27 (Int.ofNat 1)) fun n56 => self22 ((p23, l23, c23, z23), n24, n26, n56) h55)) (K (AV.tup []) h21)) ((p7, l7, c7, z7), n8, n10, n19) h5))) ((q0p, q0n, q0c, q0z), q1, (Int.ofNat 0), n1, n3) H)
def L_slices_heapSortOrdered_int : Nat → LoopA := fun id => match id with
  | 4 => ⟨(AP × Nat × ACap × Nat) × Int × Int × Int × Int, (.pair (EncA.slice 0) (.pair (EncA.int .i64 6) (.pair (EncA.int .i64 7) (.pair (EncA.int .i64 8) (EncA.int .i64 9)))))⟩
  | 8 => ⟨(AP × Nat × ACap × Nat) × Int × Int × Int, (.pair (EncA.slice 0) (.pair (EncA.int .i64 6) (.pair (EncA.int .i64 7) (EncA.int .i64 10))))⟩
  | _ => noA
def R_slices_heapSortOrdered_int : Nat → RegHint := fun id => match id with
  | 10 => ⟨(.op 0 (.op 1 (.op 2 (.op 3 (.op 4 (.op 5 (.op 6 (.op 7 (.op 8 (.op 9 (.op 10 (.op 11 (.op 12 (.op 13 (.op 14 (.op 15 (.op 16 (.op 17 (.op 18 (.op 19 .nil)))))))))))))))))))), 0, 0, 17, 0⟩
  | _ => ⟨.nil, 0, 0, 0, 0⟩
theorem E_slices_heapSortOrdered_int (lf : Nat) (cl : Cl) : PK.Eq [.slice, .int .i64, .int .i64] (evFn PG cl L_slices_heapSortOrdered_int R_slices_heapSortOrdered_int noJ lf Tryz.f89) (B_slices_heapSortOrdered_int lf cl) := by intro q0p q0n q0c q0z q1 q2 H K; kernel_rfl
theorem O_slices_heapSortOrdered_int (lf : Nat) (w0 : World) : OkB PG w0 i_slices_heapSortOrdered_int (PK.run [.slice, .int .i64, .int .i64] (B_slices_heapSortOrdered_int lf)) := okb mix (fn := Tryz.f89) rfl (E_slices_heapSortOrdered_int lf)

/-- slices.breakPatternsOrdered[int] -/
def B_slices_breakPatternsOrdered_int (lf : Nat) (cl : Cl) (q0p : AP) (q0n : Nat) (q0c : ACap) (q0z : Nat) (q1 : Int) (q2 : Int) (H : AH) (K : AV → AH → Bool) : Bool :=
  w64 (iSub q2 q1) fun n1 => fB (iLe (Int.ofNat 8) n1) fun b2 => ifA b2 (wrapK .u64 (n1) fun n3 => newK H (.row [AS.int .u64 (Int.ofNat 0)]) fun g4 h5 => sto1 h5 g4 0 (AS.int .u64 n3) fun h6 => cl i_slices_nextPowerOfTwo [AV.s (AS.int .i64 n1)] h6 fun r7 h8 => arI r7 .u64 fun n9 => w64 (Int.tdiv n1 (Int.ofNat 4)) fun n10 => w64 (iMul n10 (Int.ofNat 2)) fun n11 => w64 (iAdd q1 n11) fun n12 => w64 (iSub n12 (Int.ofNat 1)) fun n13 => (loopX lf (fun (self16 : ((AP × Nat × ACap × Nat) × Int × Int × AP × Int × Int) → AH → Bool) (x14 : (AP × Nat × ACap × Nat) × Int × Int × AP × Int × Int) (h15 : AH) => pR x14 fun u17 r17 => pR u17 fun p17 r17a => pR r17a fun l17 r17b => pR r17b fun c17 z17 => pR r17 fun n18 r19 => pR r19 fun n20 r21 => pR r21 fun p22 r23 => pR r23 fun n24 r25 => w64 (Int.tdiv n20 (Int.ofNat 4)) fun n27 => w64 (iMul n27 (Int.ofNat 2)) fun n28 => w64 (iAdd n18 n28) fun n29 => w64 (iAdd n29 (Int.ofNat 1)) fun n30 => fB (iLe r25 n30) fun b31 => ifA b31 (cl i_slices_xorshift_Next [AV.s (AS.ptr p22)] h15 fun r32 h33 => arI r32 .u64 fun n34 => wrapK .u64 (iSub n24 (Int.ofNat 1)) fun n35 => wrapK .u64 (BitVec.toNat (BitVec.ofInt (IntKind.bits .u64) n34 &&& BitVec.ofInt (IntKind.bits .u64) n35)) fun n36 => w64 (n36) fun n37 => joinX (fun (x40 : (AP × Nat × ACap × Nat) × Int × Int × AP × Int × Int × Int) (h41 : AH) => pR x40 fun u43 r43 => pR u43 fun p43 r43a => pR r43a fun l43 r43b => pR r43b fun c43 z43 => pR r43 fun n44 r45 => pR r45 fun n46 r47 => pR r47 fun p48 r49 => pR r49 fun n50 r51 => pR r51 fun n52 r53 => w64 (iAdd n44 r53) fun n55 => w64 (iAdd n44 r53) fun n56 => nilK p43 fun g57 o58 => idxK n56 l43 fun m59 => fN (Nat.add o58 (Nat.mul m59 1)) fun o60 => rowK h41 g57 fun cs61 => ldI cs61 o60 .i64 fun n62 => nilK p43 fun g63 o64 => idxK n52 l43 fun m65 => fN (Nat.add o64 (Nat.mul m65 1)) fun o66 => rowK h41 g63 fun cs67 => ldI cs67 o66 .i64 fun n68 => nilK p43 fun g69 o70 => idxK n52 l43 fun m71 => fN (Nat.add o70 (Nat.mul m71 1)) fun o72 => sto1 h41 g69 o72 (AS.int .i64 n62) fun h73 => nilK p43 fun g74 o75 => idxK n55 l43 fun m76 => fN (Nat.add o75 (Nat.mul m76 1)) fun o77 => sto1 h73 g74 o77 (AS.int .i64 n68) fun h78 => w64 (iAdd n52 (Int.ofNat 1)) fun n79 => self16 ((p43, l43, c43, z43), n44, n46, p48, n50, n79) h78) fun J42 => fB (iLe n20 n37) fun b38 => ifA b38 (w64 (iSub n37 n20) fun n39 => J42 ((p17, l17, c17, z17), n18, n20, p22, n24, r25, n39) h33) (J42 ((p17, l17, c17, z17), n18, n20, p22, n24, r25, n37) h33)) (K (AV.tup []) h15)) ((q0p, q0n, q0c, q0z), q1, n1, (.at g4 0), n9, n13) h8)) (K (AV.tup []) H)
def L_slices_breakPatternsOrdered_int : Nat → LoopA := fun id => match id with
  | 5 => ⟨(AP × Nat × ACap × Nat) × Int × Int × AP × Int × Int, (.pair (EncA.slice 0) (.pair (EncA.int .i64 1) (.pair (EncA.int .i64 6) (.pair (EncA.ptr 7) (.pair (EncA.int .u64 8) (EncA.int .i64 9))))))⟩
  | _ => noA
def R_slices_breakPatternsOrdered_int : Nat → RegHint := fun id => match id with
  | 10 => ⟨(.op 0 (.op 1 (.op 2 (.op 3 (.op 4 (.op 5 (.op 6 (.op 7 (.op 8 (.op 9 (.op 10 (.op 11 (.op 12 (.op 13 (.op 14 (.op 15 (.op 16 (.op 17 (.op 18 (.op 19 .nil)))))))))))))))))))), 0, 0, 17, 0⟩
  | _ => ⟨.nil, 0, 0, 0, 0⟩
def J_slices_breakPatternsOrdered_int : Option Nat → Option LoopA := fun id => match id with
  | some 10 => some ⟨(AP × Nat × ACap × Nat) × Int × Int × AP × Int × Int × Int, (.pair (EncA.slice 0) (.pair (EncA.int .i64 1) (.pair (EncA.int .i64 6) (.pair (EncA.ptr 7) (.pair (EncA.int .u64 8) (.pair (EncA.int .i64 9) (EncA.int .i64 10)))))))⟩
  | _ => none
theorem E_slices_breakPatternsOrdered_int (lf : Nat) (cl : Cl) : PK.Eq [.slice, .int .i64, .int .i64] (evFn PG cl L_slices_breakPatternsOrdered_int R_slices_breakPatternsOrdered_int J_slices_breakPatternsOrdered_int lf Tryz.f90) (B_slices_breakPatternsOrdered_int lf cl) := by intro q0p q0n q0c q0z q1 q2 H K; kernel_rfl
theorem O_slices_breakPatternsOrdered_int (lf : Nat) (w0 : World) : OkB PG w0 i_slices_breakPatternsOrdered_int (PK.run [.slice, .int .i64, .int .i64] (B_slices_breakPatternsOrdered_int lf)) := okb mix (fn := Tryz.f90) rfl (E_slices_breakPatternsOrdered_int lf)

/-- slices.choosePivotOrdered[int] -/
def B_slices_choosePivotOrdered_int (lf : Nat) (cl : Cl) (q0p : AP) (q0n : Nat) (q0c : ACap) (q0z : Nat) (q1 : Int) (q2 : Int) (H : AH) (K : AV → AH → Bool) : Bool :=
  w64 (iSub q2 q1) fun n1 => newK H (.row [AS.int .i64 (Int.ofNat 0)]) fun g2 h3 => w64 (Int.tdiv n1 (Int.ofNat 4)) fun n4 => w64 (iMul n4 (Int.ofNat 1)) fun n5 => w64 (iAdd q1 n5) fun n6 => w64 (Int.tdiv n1 (Int.ofNat 4)) fun n7 => w64 (iMul n7 (Int.ofNat 2)) fun n8 => w64 (iAdd q1 n8) fun n9 => w64 (Int.tdiv n1 (Int.ofNat 4)) fun n10 => w64 (iMul n10 (Int.ofNat 3)) fun n11 => w64 (iAdd q1 n11) fun n12 => joinX (fun (x38 : AP × Int) (h39 : AH) => pR x38 fun p41 r42 => nilK p41 fun g44 o45 => rowK h39 g44 fun cs46 => ldI cs46 o45 .i64 fun n47 => fB (iEq n47 (Int.ofNat 0)) fun b48 => ifA b48 (K (AV.tup [AV.s (AS.int .i64 r42), AV.s (AS.int .i64 (Int.ofNat 1))]) h39) (fB (iEq n47 (Int.ofNat 12)) fun b49 => ifA b49 (K (AV.tup [AV.s (AS.int .i64 r42), AV.s (AS.int .i64 (Int.ofNat 2))]) h39) (K (AV.tup [AV.s (AS.int .i64 r42), AV.s (AS.int .i64 (Int.ofNat 0))]) h39))) fun J40 => fB (iLe (Int.ofNat 8) n1) fun b13 => ifA b13 (joinX (fun (x24 : (AP × Nat × ACap × Nat) × AP × Int × Int × Int) (h25 : AH) => pR x24 fun u27 r27 => pR u27 fun p27 r27a => pR r27a fun l27 r27b => pR r27b fun c27 z27 => pR r27 fun p28 r29 => pR r29 fun n30 r31 => pR r31 fun n32 r33 => cl i_slices_medianOrdered_int [AV.s (AS.slice p27 l27 c27 z27), AV.s (AS.int .i64 n30), AV.s (AS.int .i64 n32), AV.s (AS.int .i64 r33), AV.s (AS.ptr p28)] h25 fun r35 h36 => arI r35 .i64 fun n37 => J40 (p28, n37) h36) fun J26 => fB (iLe (Int.ofNat 50) n1) fun b14 => ifA b14 (cl i_slices_medianAdjacentOrdered_int [AV.s (AS.slice q0p q0n q0c q0z), AV.s (AS.int .i64 n6), AV.s (AS.ptr (.at g2 0))] h3 fun r15 h16 => arI r15 .i64 fun n17 => cl i_slices_medianAdjacentOrdered_int [AV.s (AS.slice q0p q0n q0c q0z), AV.s (AS.int .i64 n9), AV.s (AS.ptr (.at g2 0))] h16 fun r18 h19 => arI r18 .i64 fun n20 => cl i_slices_medianAdjacentOrdered_int [AV.s (AS.slice q0p q0n q0c q0z), AV.s (AS.int .i64 n12), AV.s (AS.ptr (.at g2 0))] h19 fun r21 h22 => arI r21 .i64 fun n23 => J26 ((q0p, q0n, q0c, q0z), (.at g2 0), n17, n20, n23) h22) (J26 ((q0p, q0n, q0c, q0z), (.at g2 0), n6, n9, n12) h3)) (J40 ((.at g2 0), n9) h3)
def J_slices_choosePivotOrdered_int : Option Nat → Option LoopA := fun id => match id with
  | some 11 => some ⟨(AP × Nat × ACap × Nat) × AP × Int × Int × Int, (.pair (EncA.slice 0) (.pair (EncA.ptr 9) (.pair (EncA.int .i64 10) (.pair (EncA.int .i64 11) (EncA.int .i64 12)))))⟩
  | some 12 => some ⟨AP × Int, (.pair (EncA.ptr 9) (EncA.int .i64 11))⟩
  | _ => none
theorem E_slices_choosePivotOrdered_int (lf : Nat) (cl : Cl) : PK.Eq [.slice, .int .i64, .int .i64] (evFn PG cl noL noR J_slices_choosePivotOrdered_int lf Tryz.f91) (B_slices_choosePivotOrdered_int lf cl) := by intro q0p q0n q0c q0z q1 q2 H K; kernel_rfl
theorem O_slices_choosePivotOrdered_int (lf : Nat) (w0 : World) : OkB PG w0 i_slices_choosePivotOrdered_int (PK.run [.slice, .int .i64, .int .i64] (B_slices_choosePivotOrdered_int lf)) := okb mix (fn := Tryz.f91) rfl (E_slices_choosePivotOrdered_int lf)

/-- slices.reverseRangeOrdered[int] -/
def B_slices_reverseRangeOrdered_int (lf : Nat) (cl : Cl) (q0p : AP) (q0n : Nat) (q0c : ACap) (q0z : Nat) (q1 : Int) (q2 : Int) (H : AH) (K : AV → AH → Bool) : Bool :=
  w64 (iSub q2 (Int.ofNat 1)) fun n1 => (loopX lf (fun (self4 : ((AP × Nat × ACap × Nat) × Int × Int) → AH → Bool) (x2 : (AP × Nat × ACap × Nat) × Int × Int) (h3 : AH) => pR x2 fun u5 r5 => pR u5 fun p5 r5a => pR r5a fun l5 r5b => pR r5b fun c5 z5 => pR r5 fun n6 r7 => fB (iLt n6 r7) fun b9 => ifA b9 (nilK p5 fun g10 o11 => idxK r7 l5 fun m12 => fN (Nat.add o11 (Nat.mul m12 1)) fun o13 => rowK h3 g10 fun cs14 => ldI cs14 o13 .i64 fun n15 => nilK p5 fun g16 o17 => idxK n6 l5 fun m18 => fN (Nat.add o17 (Nat.mul m18 1)) fun o19 => rowK h3 g16 fun cs20 => ldI cs20 o19 .i64 fun n21 => nilK p5 fun g22 o23 => idxK n6 l5 fun m24 => fN (Nat.add o23 (Nat.mul m24 1)) fun o25 => sto1 h3 g22 o25 (AS.int .i64 n15) fun h26 => nilK p5 fun g27 o28 => idxK r7 l5 fun m29 => fN (Nat.add o28 (Nat.mul m29 1)) fun o30 => sto1 h26 g27 o30 (AS.int .i64 n21) fun h31 => w64 (iAdd n6 (Int.ofNat 1)) fun n32 => w64 (iSub r7 (Int.ofNat 1)) fun n33 => self4 ((p5, l5, c5, z5), n32, n33) h31) (K (AV.tup []) h3)) ((q0p, q0n, q0c, q0z), q1, n1) H)
def L_slices_reverseRangeOrdered_int : Nat → LoopA := fun id => match id with
  | 2 => ⟨(AP × Nat × ACap × Nat) × Int × Int, (.pair (EncA.slice 0) (.pair (EncA.int .i64 6) (EncA.int .i64 7)))⟩
  | _ => noA
def R_slices_reverseRangeOrdered_int : Nat → RegHint := fun id => match id with
  | 3 => ⟨(.op 0 (.op 1 (.op 2 (.op 3 (.op 4 (.op 5 (.op 6 (.op 7 (.op 8 (.op 9 (.op 10 (.op 11 (.op 12 (.op 13 (.op 14 (.op 15 .nil)))))))))))))))), 0, 0, 13, 0⟩
  | _ => ⟨.nil, 0, 0, 0, 0⟩
theorem E_slices_reverseRangeOrdered_int (lf : Nat) (cl : Cl) : PK.Eq [.slice, .int .i64, .int .i64] (evFn PG cl L_slices_reverseRangeOrdered_int R_slices_reverseRangeOrdered_int noJ lf Tryz.f92) (B_slices_reverseRangeOrdered_int lf cl) := by intro q0p q0n q0c q0z q1 q2 H K; kernel_rfl
theorem O_slices_reverseRangeOrdered_int (lf : Nat) (w0 : World) : OkB PG w0 i_slices_reverseRangeOrdered_int (PK.run [.slice, .int .i64, .int .i64] (B_slices_reverseRangeOrdered_int lf)) := okb mix (fn := Tryz.f92) rfl (E_slices_reverseRangeOrdered_int lf)

/-- slices.partialInsertionSortOrdered[int] -/
def B_slices_partialInsertionSortOrdered_int (lf : Nat) (cl : Cl) (q0p : AP) (q0n : Nat) (q0c : ACap) (q0z : Nat) (q1 : Int) (q2 : Int) (H : AH) (K : AV → AH → Bool) : Bool :=
  w64 (iAdd q1 (Int.ofNat 1)) fun n1 => (loopX lf (fun (self4 : ((AP × Nat × ACap × Nat) × Int × Int × Int × Int) → AH → Bool) (x2 : (AP × Nat × ACap × Nat) × Int × Int × Int × Int) (h3 : AH) => pR x2 fun u5 r5 => pR u5 fun p5 r5a => pR r5a fun l5 r5b => pR r5b fun c5 z5 => pR r5 fun n6 r7 => pR r7 fun n8 r9 => pR r9 fun n10 r11 => fB (iLt r11 (Int.ofNat 5)) fun b13 => ifA b13 (joinX (fun (x44 : (AP × Nat × ACap × Nat) × Int × Int × Int × Int) (h45 : AH) => pR x44 fun u47 r47 => pR u47 fun p47 r47a => pR r47a fun l47 r47b => pR r47b fun c47 z47 => pR r47 fun n48 r49 => pR r49 fun n50 r51 => pR r51 fun n52 r53 => fB (iEq n52 n50) fun b55 => ifA b55 (K (AV.s (AS.bool true)) h45) (w64 (iSub n50 n48) fun n56 => fB (iLt n56 (Int.ofNat 50)) fun b57 => ifA b57 (K (AV.s (AS.bool false)) h45) (w64 (iSub n52 (Int.ofNat 1)) fun n58 => w64 (iSub n52 (Int.ofNat 1)) fun n59 => nilK p47 fun g60 o61 => idxK n59 l47 fun m62 => fN (Nat.add o61 (Nat.mul m62 1)) fun o63 => rowK h45 g60 fun cs64 => ldI cs64 o63 .i64 fun n65 => nilK p47 fun g66 o67 => idxK n52 l47 fun m68 => fN (Nat.add o67 (Nat.mul m68 1)) fun o69 => rowK h45 g66 fun cs70 => ldI cs70 o69 .i64 fun n71 => nilK p47 fun g72 o73 => idxK n52 l47 fun m74 => fN (Nat.add o73 (Nat.mul m74 1)) fun o75 => sto1 h45 g72 o75 (AS.int .i64 n65) fun h76 => nilK p47 fun g77 o78 => idxK n58 l47 fun m79 => fN (Nat.add o78 (Nat.mul m79 1)) fun o80 => sto1 h76 g77 o80 (AS.int .i64 n71) fun h81 => joinX (fun (x141 : (AP × Nat × ACap × Nat) × Int × Int × Int × Int) (h142 : AH) => pR x141 fun u144 r144 => pR u144 fun p144 r144a => pR r144a fun l144 r144b => pR r144b fun c144 z144 => pR r144 fun n145 r146 => pR r146 fun n147 r148 => pR r148 fun n149 r150 => w64 (iSub n147 n149) fun n152 => fB (iLe (Int.ofNat 2) n152) fun b153 => ifA b153 (w64 (iAdd n149 (Int.ofNat 1)) fun n154 => (loopX lf (fun (self157 : ((AP × Nat × ACap × Nat) × Int × Int × Int × Int × Int) → AH → Bool) (x155 : (AP × Nat × ACap × Nat) × Int × Int × Int × Int × Int) (h156 : AH) => pR x155 fun u158 r158 => pR u158 fun p158 r158a => pR r158a fun l158 r158b => pR r158b fun c158 z158 => pR r158 fun n159 r160 => pR r160 fun n161 r162 => pR r162 fun n163 r164 => pR r164 fun n165 r166 => fB (iLt r166 n161) fun b168 => ifA b168 (nilK p158 fun g169 o170 => idxK r166 l158 fun m171 => fN (Nat.add o170 (Nat.mul m171 1)) fun o172 => rowK h156 g169 fun cs173 => ldI cs173 o172 .i64 fun n174 => w64 (iSub r166 (Int.ofNat 1)) fun n175 => nilK p158 fun g176 o177 => idxK n175 l158 fun m178 => fN (Nat.add o177 (Nat.mul m178 1)) fun o179 => rowK h156 g176 fun cs180 => ldI cs180 o179 .i64 fun n181 => cl i_cmp_Less_int [AV.s (AS.int .i64 n174), AV.s (AS.int .i64 n181)] h156 fun r182 h183 => arB r182 fun b184 => fB (!b184) fun b185 => ifA b185 (w64 (iAdd n165 (Int.ofNat 1)) fun n212 => self4 ((p158, l158, c158, z158), n159, n161, n163, n212) h183) (w64 (iSub r166 (Int.ofNat 1)) fun n186 => w64 (iSub r166 (Int.ofNat 1)) fun n187 => nilK p158 fun g188 o189 => idxK n187 l158 fun m190 => fN (Nat.add o189 (Nat.mul m190 1)) fun o191 => rowK h183 g188 fun cs192 => ldI cs192 o191 .i64 fun n193 => nilK p158 fun g194 o195 => idxK r166 l158 fun m196 => fN (Nat.add o195 (Nat.mul m196 1)) fun o197 => rowK h183 g194 fun cs198 => ldI cs198 o197 .i64 fun n199 => nilK p158 fun g200 o201 => idxK r166 l158 fun m202 => fN (Nat.add o201 (Nat.mul m202 1)) fun o203 => sto1 h183 g200 o203 (AS.int .i64 n193) fun h204 => nilK p158 fun g205 o206 => idxK n186 l158 fun m207 => fN (Nat.add o206 (Nat.mul m207 1)) fun o208 => sto1 h204 g205 o208 (AS.int .i64 n199) fun h209 => w64 (iAdd r166 (Int.ofNat 1)) fun n210 => self157 ((p158, l158, c158, z158), n159, n161, n163, n165, n210) h209)) (w64 (iAdd n165 (Int.ofNat 1)) fun n211 => self4 ((p158, l158, c158, z158), n159, n161, n163, n211) h156)) ((p144, l144, c144, z144), n145, n147, n149, r150, n154) h142)) (w64 (iAdd r150 (Int.ofNat 1)) fun n213 => self4 ((p144, l144, c144, z144), n145, n147, n149, n213) h142)) fun J143 => w64 (iSub n52 n48) fun n82 => fB (iLe (Int.ofNat 2) n82) fun b83 => ifA b83 (w64 (iSub n52 (Int.ofNat 1)) fun n84 => (loopX lf (fun (self87 : ((AP × Nat × ACap × Nat) × Int × Int × Int × Int × Int) → AH → Bool) (x85 : (AP × Nat × ACap × Nat) × Int × Int × Int × Int × Int) (h86 : AH) => pR x85 fun u88 r88 => pR u88 fun p88 r88a => pR r88a fun l88 r88b => pR r88b fun c88 z88 => pR r88 fun n89 r90 => pR r90 fun n91 r92 => pR r92 fun n93 r94 => pR r94 fun n95 r96 => fB (iLe (Int.ofNat 1) r96) fun b98 => ifA b98 (nilK p88 fun g99 o100 => idxK r96 l88 fun m101 => fN (Nat.add o100 (Nat.mul m101 1)) fun o102 => rowK h86 g99 fun cs103 => ldI cs103 o102 .i64 fun n104 => w64 (iSub r96 (Int.ofNat 1)) fun n105 => nilK p88 fun g106 o107 => idxK n105 l88 fun m108 => fN (Nat.add o107 (Nat.mul m108 1)) fun o109 => rowK h86 g106 fun cs110 => ldI cs110 o109 .i64 fun n111 => cl i_cmp_Less_int [AV.s (AS.int .i64 n104), AV.s (AS.int .i64 n111)] h86 fun r112 h113 => arB r112 fun b114 => fB (!b114) fun b115 => ifA b115 (J143 ((p88, l88, c88, z88), n89, n91, n93, n95) h113) (w64 (iSub r96 (Int.ofNat 1)) fun n116 => w64 (iSub r96 (Int.ofNat 1)) fun n117 => nilK p88 fun g118 o119 => idxK n117 l88 fun m120 => fN (Nat.add o119 (Nat.mul m120 1)) fun o121 => rowK h113 g118 fun cs122 => ldI cs122 o121 .i64 fun n123 => nilK p88 fun g124 o125 => idxK r96 l88 fun m126 => fN (Nat.add o125 (Nat.mul m126 1)) fun o127 => rowK h113 g124 fun cs128 => ldI cs128 o127 .i64 fun n129 => nilK p88 fun g130 o131 => idxK r96 l88 fun m132 => fN (Nat.add o131 (Nat.mul m132 1)) fun o133 => sto1 h113 g130 o133 (AS.int .i64 n123) fun h134 => nilK p88 fun g135 o136 => idxK n116 l88 fun m137 => fN (Nat.add o136 (Nat.mul m137 1)) fun o138 => sto1 h134 g135 o138 (AS.int .i64 n129) fun h139 => w64 (iSub r96 (Int.ofNat 1)) fun n140 => self87 ((p88, l88, c88, z88), n89, n91, n93, n95, n140) h139)) (J143 ((p88, l88, c88, z88), n89, n91, n93, n95) h86)) ((p47, l47, c47, z47), n48, n50, n52, r53, n84) h81)) (J143 ((p47, l47, c47, z47), n48, n50, n52, r53) h81)))) fun J46 => (loopX lf (fun (self16 : ((AP × Nat × ACap × Nat) × Int × Int × Int × Int) → AH → Bool) (x14 : (AP × Nat × ACap × Nat) × Int × Int × Int × Int) (h15 : AH) => pR x14 fun u17 r17 => pR u17 fun p17 r17a => pR r17a fun l17 r17b => pR r17b fun c17 z17 => pR r17 fun n18 r19 => pR r19 fun n20 r21 => pR r21 fun n22 r23 => fB (iLt n22 n20) fun b25 => ifA b25 (nilK p17 fun g26 o27 => idxK n22 l17 fun m28 => fN (Nat.add o27 (Nat.mul m28 1)) fun o29 => rowK h15 g26 fun cs30 => ldI cs30 o29 .i64 fun n31 => w64 (iSub n22 (Int.ofNat 1)) fun n32 => nilK p17 fun g33 o34 => idxK n32 l17 fun m35 => fN (Nat.add o34 (Nat.mul m35 1)) fun o36 => rowK h15 g33 fun cs37 => ldI cs37 o36 .i64 fun n38 => cl i_cmp_Less_int [AV.s (AS.int .i64 n31), AV.s (AS.int .i64 n38)] h15 fun r39 h40 => arB r39 fun b41 => fB (!b41) fun b42 => ifA b42 (w64 (iAdd n22 (Int.ofNat 1)) fun n43 => self16 ((p17, l17, c17, z17), n18, n20, n43, r23) h40) (J46 ((p17, l17, c17, z17), n18, n20, n22, r23) h40)) (J46 ((p17, l17, c17, z17), n18, n20, n22, r23) h15)) ((p5, l5, c5, z5), n6, n8, n10, r11) h3)) (K (AV.s (AS.bool false)) h3)) ((q0p, q0n, q0c, q0z), q1, q2, n1, (Int.ofNat 0)) H)
def L_slices_partialInsertionSortOrdered_int : Nat → LoopA := fun id => match id with
  | 3 => ⟨(AP × Nat × ACap × Nat) × Int × Int × Int × Int, (.pair (EncA.slice 0) (.pair (EncA.int .i64 1) (.pair (EncA.int .i64 2) (.pair (EncA.int .i64 7) (EncA.int .i64 8)))))⟩
  | 5 => ⟨(AP × Nat × ACap × Nat) × Int × Int × Int × Int, (.pair (EncA.slice 0) (.pair (EncA.int .i64 1) (.pair (EncA.int .i64 2) (.pair (EncA.int .i64 7) (EncA.int .i64 8)))))⟩
  | 14 => ⟨(AP × Nat × ACap × Nat) × Int × Int × Int × Int × Int, (.pair (EncA.slice 0) (.pair (EncA.int .i64 1) (.pair (EncA.int .i64 2) (.pair (EncA.int .i64 7) (.pair (EncA.int .i64 8) (EncA.int .i64 9))))))⟩
  | 20 => ⟨(AP × Nat × ACap × Nat) × Int × Int × Int × Int × Int, (.pair (EncA.slice 0) (.pair (EncA.int .i64 1) (.pair (EncA.int .i64 2) (.pair (EncA.int .i64 7) (.pair (EncA.int .i64 8) (EncA.int .i64 10))))))⟩
  | _ => noA
def R_slices_partialInsertionSortOrdered_int : Nat → RegHint := fun id => match id with
  | 5 => ⟨(.op 0 (.op 1 (.op 2 (.op 3 (.op 4 (.op 5 (.op 6 (.op 7 (.op 8 (.op 9 (.op 10 (.op 11 (.op 12 (.op 13 (.op 14 (.op 15 .nil)))))))))))))))), 0, 0, 13, 0⟩
  | 11 => ⟨(.op 0 (.op 1 (.op 2 (.op 3 (.op 4 (.op 5 (.op 6 (.op 7 (.op 8 (.op 9 (.op 10 (.op 11 (.op 12 (.op 13 (.op 14 (.op 15 (.op 16 (.op 17 .nil)))))))))))))))))), 0, 0, 15, 0⟩
  | 16 => ⟨(.op 0 (.op 1 (.op 2 (.op 3 (.op 4 (.op 5 (.op 6 (.op 7 (.op 8 (.op 9 (.op 10 .nil))))))))))), 0, 0, 9, 0⟩
  | 17 => ⟨(.op 0 (.op 1 (.op 2 (.op 3 (.op 4 (.op 5 (.op 6 (.op 7 (.op 8 (.op 9 (.op 10 (.op 11 (.op 12 (.op 13 (.op 14 (.op 15 (.op 16 (.op 17 .nil)))))))))))))))))), 0, 0, 15, 0⟩
  | 22 => ⟨(.op 0 (.op 1 (.op 2 (.op 3 (.op 4 (.op 5 (.op 6 (.op 7 (.op 8 (.op 9 (.op 10 .nil))))))))))), 0, 0, 9, 0⟩
  | 23 => ⟨(.op 0 (.op 1 (.op 2 (.op 3 (.op 4 (.op 5 (.op 6 (.op 7 (.op 8 (.op 9 (.op 10 (.op 11 (.op 12 (.op 13 (.op 14 (.op 15 (.op 16 (.op 17 .nil)))))))))))))))))), 0, 0, 15, 0⟩
  | _ => ⟨.nil, 0, 0, 0, 0⟩
def J_slices_partialInsertionSortOrdered_int : Option Nat → Option LoopA := fun id => match id with
  | some 7 => some ⟨(AP × Nat × ACap × Nat) × Int × Int × Int × Int, (.pair (EncA.slice 0) (.pair (EncA.int .i64 1) (.pair (EncA.int .i64 2) (.pair (EncA.int .i64 7) (EncA.int .i64 8)))))⟩
  | some 18 => some ⟨(AP × Nat × ACap × Nat) × Int × Int × Int × Int, (.pair (EncA.slice 0) (.pair (EncA.int .i64 1) (.pair (EncA.int .i64 2) (.pair (EncA.int .i64 7) (EncA.int .i64 8)))))⟩
  | _ => none
theorem E_slices_partialInsertionSortOrdered_int (lf : Nat) (cl : Cl) : PK.Eq [.slice, .int .i64, .int .i64] (evFn PG cl L_slices_partialInsertionSortOrdered_int R_slices_partialInsertionSortOrdered_int J_slices_partialInsertionSortOrdered_int lf Tryz.f93) (B_slices_partialInsertionSortOrdered_int lf cl) := by intro q0p q0n q0c q0z q1 q2 H K; kernel_rfl
theorem O_slices_partialInsertionSortOrdered_int (lf : Nat) (w0 : World) : OkB PG w0 i_slices_partialInsertionSortOrdered_int (PK.run [.slice, .int .i64, .int .i64] (B_slices_partialInsertionSortOrdered_int lf)) := okb mix (fn := Tryz.f93) rfl (E_slices_partialInsertionSortOrdered_int lf)

/-- slices.partitionEqualOrdered[int] -/
def B_slices_partitionEqualOrdered_int (lf : Nat) (cl : Cl) (q0p : AP) (q0n : Nat) (q0c : ACap) (q0z : Nat) (q1 : Int) (q2 : Int) (q3 : Int) (H : AH) (K : AV → AH → Bool) : Bool :=
  nilK q0p fun g1 o2 => idxK q3 q0n fun m3 => fN (Nat.add o2 (Nat.mul m3 1)) fun o4 => rowK H g1 fun cs5 => ldI cs5 o4 .i64 fun n6 => nilK q0p fun g7 o8 => idxK q1 q0n fun m9 => fN (Nat.add o8 (Nat.mul m9 1)) fun o10 => rowK H g7 fun cs11 => ldI cs11 o10 .i64 fun n12 => nilK q0p fun g13 o14 => idxK q1 q0n fun m15 => fN (Nat.add o14 (Nat.mul m15 1)) fun o16 => sto1 H g13 o16 (AS.int .i64 n6) fun h17 => nilK q0p fun g18 o19 => idxK q3 q0n fun m20 => fN (Nat.add o19 (Nat.mul m20 1)) fun o21 => sto1 h17 g18 o21 (AS.int .i64 n12) fun h22 => w64 (iAdd q1 (Int.ofNat 1)) fun n23 => w64 (iSub q2 (Int.ofNat 1)) fun n24 => (loopX lf (fun (self27 : ((AP × Nat × ACap × Nat) × Int × Int × Int) → AH → Bool) (x25 : (AP × Nat × ACap × Nat) × Int × Int × Int) (h26 : AH) => pR x25 fun u28 r28 => pR u28 fun p28 r28a => pR r28a fun l28 r28b => pR r28b fun c28 z28 => pR r28 fun n29 r30 => pR r30 fun n31 r32 => joinX (fun (x61 : (AP × Nat × ACap × Nat) × Int × Int × Int) (h62 : AH) => pR x61 fun u64 r64 => pR u64 fun p64 r64a => pR r64a fun l64 r64b => pR r64b fun c64 z64 => pR r64 fun n65 r66 => pR r66 fun n67 r68 => joinX (fun (x96 : (AP × Nat × ACap × Nat) × Int × Int × Int) (h97 : AH) => pR x96 fun u99 r99 => pR u99 fun p99 r99a => pR r99a fun l99 r99b => pR r99b fun c99 z99 => pR r99 fun n100 r101 => pR r101 fun n102 r103 => fB (iLt r103 n102) fun b105 => ifA b105 (K (AV.s (AS.int .i64 n102)) h97) (nilK p99 fun g106 o107 => idxK r103 l99 fun m108 => fN (Nat.add o107 (Nat.mul m108 1)) fun o109 => rowK h97 g106 fun cs110 => ldI cs110 o109 .i64 fun n111 => nilK p99 fun g112 o113 => idxK n102 l99 fun m114 => fN (Nat.add o113 (Nat.mul m114 1)) fun o115 => rowK h97 g112 fun cs116 => ldI cs116 o115 .i64 fun n117 => nilK p99 fun g118 o119 => idxK n102 l99 fun m120 => fN (Nat.add o119 (Nat.mul m120 1)) fun o121 => sto1 h97 g118 o121 (AS.int .i64 n111) fun h122 => nilK p99 fun g123 o124 => idxK r103 l99 fun m125 => fN (Nat.add o124 (Nat.mul m125 1)) fun o126 => sto1 h122 g123 o126 (AS.int .i64 n117) fun h127 => w64 (iAdd n102 (Int.ofNat 1)) fun n128 => w64 (iSub r103 (Int.ofNat 1)) fun n129 => self27 ((p99, l99, c99, z99), n100, n128, n129) h127)) fun J98 => (loopX lf (fun (self72 : ((AP × Nat × ACap × Nat) × Int × Int × Int) → AH → Bool) (x70 : (AP × Nat × ACap × Nat) × Int × Int × Int) (h71 : AH) => pR x70 fun u73 r73 => pR u73 fun p73 r73a => pR r73a fun l73 r73b => pR r73b fun c73 z73 => pR r73 fun n74 r75 => pR r75 fun n76 r77 => fB (iLe n76 r77) fun b79 => ifA b79 (nilK p73 fun g80 o81 => idxK n74 l73 fun m82 => fN (Nat.add o81 (Nat.mul m82 1)) fun o83 => rowK h71 g80 fun cs84 => ldI cs84 o83 .i64 fun n85 => nilK p73 fun g86 o87 => idxK r77 l73 fun m88 => fN (Nat.add o87 (Nat.mul m88 1)) fun o89 => rowK h71 g86 fun cs90 => ldI cs90 o89 .i64 fun n91 => cl i_cmp_Less_int [AV.s (AS.int .i64 n85), AV.s (AS.int .i64 n91)] h71 fun r92 h93 => arB r92 fun b94 => ifA b94 (w64 (iSub r77 (Int.ofNat 1)) fun n95 => self72 ((p73, l73, c73, z73), n74, n76, n95) h93) (J98 ((p73, l73, c73, z73), n74, n76, r77) h93)) (J98 ((p73, l73, c73, z73), n74, n76, r77) h71)) ((p64, l64, c64, z64), n65, n67, r68) h62)) fun J63 => (loopX lf (fun (self36 : ((AP × Nat × ACap × Nat) × Int × Int × Int) → AH → Bool) (x34 : (AP × Nat × ACap × Nat) × Int × Int × Int) (h35 : AH) => pR x34 fun u37 r37 => pR u37 fun p37 r37a => pR r37a fun l37 r37b => pR r37b fun c37 z37 => pR r37 fun n38 r39 => pR r39 fun n40 r41 => fB (iLe n40 r41) fun b43 => ifA b43 (nilK p37 fun g44 o45 => idxK n38 l37 fun m46 => fN (Nat.add o45 (Nat.mul m46 1)) fun o47 => rowK h35 g44 fun cs48 => ldI cs48 o47 .i64 fun n49 => nilK p37 fun g50 o51 => idxK n40 l37 fun m52 => fN (Nat.add o51 (Nat.mul m52 1)) fun o53 => rowK h35 g50 fun cs54 => ldI cs54 o53 .i64 fun n55 => cl i_cmp_Less_int [AV.s (AS.int .i64 n49), AV.s (AS.int .i64 n55)] h35 fun r56 h57 => arB r56 fun b58 => fB (!b58) fun b59 => ifA b59 (w64 (iAdd n40 (Int.ofNat 1)) fun n60 => self36 ((p37, l37, c37, z37), n38, n60, r41) h57) (J63 ((p37, l37, c37, z37), n38, n40, r41) h57)) (J63 ((p37, l37, c37, z37), n38, n40, r41) h35)) ((p28, l28, c28, z28), n29, n31, r32) h26)) ((q0p, q0n, q0c, q0z), q1, n23, n24) h22)
def L_slices_partitionEqualOrdered_int : Nat → LoopA := fun id => match id with
  | 3 => ⟨(AP × Nat × ACap × Nat) × Int × Int × Int, (.pair (EncA.slice 0) (.pair (EncA.int .i64 1) (.pair (EncA.int .i64 9) (EncA.int .i64 10))))⟩
  | 5 => ⟨(AP × Nat × ACap × Nat) × Int × Int × Int, (.pair (EncA.slice 0) (.pair (EncA.int .i64 1) (.pair (EncA.int .i64 9) (EncA.int .i64 10))))⟩
  | _ => noA
def R_slices_partitionEqualOrdered_int : Nat → RegHint := fun id => match id with
  | 1 => ⟨(.op 0 (.op 1 (.op 2 (.op 3 (.op 4 (.op 5 (.op 6 (.op 7 (.op 8 (.op 9 (.op 10 (.op 11 (.op 12 (.op 13 (.op 14 (.op 15 .nil)))))))))))))))), 0, 0, 13, 0⟩
  | 3 => ⟨(.op 0 (.op 1 (.op 2 (.op 3 (.op 4 (.op 5 (.op 6 (.op 7 (.op 8 (.op 9 (.op 10 (.op 11 (.op 12 (.op 13 (.op 14 .nil))))))))))))))), 0, 0, 12, 0⟩
  | 5 => ⟨(.op 0 (.op 1 (.op 2 (.op 3 (.op 4 (.op 5 (.op 6 (.op 7 (.op 8 (.op 9 (.op 10 (.op 11 (.op 12 (.op 13 .nil)))))))))))))), 0, 0, 12, 0⟩
  | 8 => ⟨(.op 0 (.op 1 (.op 2 (.op 3 (.op 4 (.op 5 (.op 6 (.op 7 (.op 8 (.op 9 (.op 10 (.op 11 (.op 12 (.op 13 (.op 14 (.op 15 .nil)))))))))))))))), 0, 0, 13, 0⟩
  | _ => ⟨.nil, 0, 0, 0, 0⟩
def J_slices_partitionEqualOrdered_int : Option Nat → Option LoopA := fun id => match id with
  | some 5 => some ⟨(AP × Nat × ACap × Nat) × Int × Int × Int, (.pair (EncA.slice 0) (.pair (EncA.int .i64 1) (.pair (EncA.int .i64 9) (EncA.int .i64 10))))⟩
  | some 7 => some ⟨(AP × Nat × ACap × Nat) × Int × Int × Int, (.pair (EncA.slice 0) (.pair (EncA.int .i64 1) (.pair (EncA.int .i64 9) (EncA.int .i64 10))))⟩
  | _ => none
theorem E_slices_partitionEqualOrdered_int (lf : Nat) (cl : Cl) : PK.Eq [.slice, .int .i64, .int .i64, .int .i64] (evFn PG cl L_slices_partitionEqualOrdered_int R_slices_partitionEqualOrdered_int J_slices_partitionEqualOrdered_int lf Tryz.f95) (B_slices_partitionEqualOrdered_int lf cl) := by intro q0p q0n q0c q0z q1 q2 q3 H K; kernel_rfl
theorem O_slices_partitionEqualOrdered_int (lf : Nat) (w0 : World) : OkB PG w0 i_slices_partitionEqualOrdered_int (PK.run [.slice, .int .i64, .int .i64, .int .i64] (B_slices_partitionEqualOrdered_int lf)) := okb mix (fn := Tryz.f95) rfl (E_slices_partitionEqualOrdered_int lf)

/-- slices.partitionOrdered[int] -/
def B_slices_partitionOrdered_int (lf : Nat) (cl : Cl) (q0p : AP) (q0n : Nat) (q0c : ACap) (q0z : Nat) (q1 : Int) (q2 : Int) (q3 : Int) (H : AH) (K : AV → AH → Bool) : Bool :=
  nilK q0p fun g1 o2 => idxK q3 q0n fun m3 => fN (Nat.add o2 (Nat.mul m3 1)) fun o4 => rowK H g1 fun cs5 => ldI cs5 o4 .i64 fun n6 => nilK q0p fun g7 o8 => idxK q1 q0n fun m9 => fN (Nat.add o8 (Nat.mul m9 1)) fun o10 => rowK H g7 fun cs11 => ldI cs11 o10 .i64 fun n12 => nilK q0p fun g13 o14 => idxK q1 q0n fun m15 => fN (Nat.add o14 (Nat.mul m15 1)) fun o16 => sto1 H g13 o16 (AS.int .i64 n6) fun h17 => nilK q0p fun g18 o19 => idxK q3 q0n fun m20 => fN (Nat.add o19 (Nat.mul m20 1)) fun o21 => sto1 h17 g18 o21 (AS.int .i64 n12) fun h22 => w64 (iAdd q1 (Int.ofNat 1)) fun n23 => w64 (iSub q2 (Int.ofNat 1)) fun n24 => joinX (fun (x51 : (AP × Nat × ACap × Nat) × Int × Int × Int) (h52 : AH) => pR x51 fun u54 r54 => pR u54 fun p54 r54a => pR r54a fun l54 r54b => pR r54b fun c54 z54 => pR r54 fun n55 r56 => pR r56 fun n57 r58 => joinX (fun (x87 : (AP × Nat × ACap × Nat) × Int × Int × Int) (h88 : AH) => pR x87 fun u90 r90 => pR u90 fun p90 r90a => pR r90a fun l90 r90b => pR r90b fun c90 z90 => pR r90 fun n91 r92 => pR r92 fun n93 r94 => fB (iLt r94 n93) fun b96 => ifA b96 (nilK p90 fun g97 o98 => idxK n91 l90 fun m99 => fN (Nat.add o98 (Nat.mul m99 1)) fun o100 => rowK h88 g97 fun cs101 => ldI cs101 o100 .i64 fun n102 => nilK p90 fun g103 o104 => idxK r94 l90 fun m105 => fN (Nat.add o104 (Nat.mul m105 1)) fun o106 => rowK h88 g103 fun cs107 => ldI cs107 o106 .i64 fun n108 => nilK p90 fun g109 o110 => idxK r94 l90 fun m111 => fN (Nat.add o110 (Nat.mul m111 1)) fun o112 => sto1 h88 g109 o112 (AS.int .i64 n102) fun h113 => nilK p90 fun g114 o115 => idxK n91 l90 fun m116 => fN (Nat.add o115 (Nat.mul m116 1)) fun o117 => sto1 h113 g114 o117 (AS.int .i64 n108) fun h118 => K (AV.tup [AV.s (AS.int .i64 r94), AV.s (AS.bool true)]) h118) (nilK p90 fun g119 o120 => idxK r94 l90 fun m121 => fN (Nat.add o120 (Nat.mul m121 1)) fun o122 => rowK h88 g119 fun cs123 => ldI cs123 o122 .i64 fun n124 => nilK p90 fun g125 o126 => idxK n93 l90 fun m127 => fN (Nat.add o126 (Nat.mul m127 1)) fun o128 => rowK h88 g125 fun cs129 => ldI cs129 o128 .i64 fun n130 => nilK p90 fun g131 o132 => idxK n93 l90 fun m133 => fN (Nat.add o132 (Nat.mul m133 1)) fun o134 => sto1 h88 g131 o134 (AS.int .i64 n124) fun h135 => nilK p90 fun g136 o137 => idxK r94 l90 fun m138 => fN (Nat.add o137 (Nat.mul m138 1)) fun o139 => sto1 h135 g136 o139 (AS.int .i64 n130) fun h140 => w64 (iAdd n93 (Int.ofNat 1)) fun n141 => w64 (iSub r94 (Int.ofNat 1)) fun n142 => (loopX lf (fun (self145 : ((AP × Nat × ACap × Nat) × Int × Int × Int) → AH → Bool) (x143 : (AP × Nat × ACap × Nat) × Int × Int × Int) (h144 : AH) => pR x143 fun u146 r146 => pR u146 fun p146 r146a => pR r146a fun l146 r146b => pR r146b fun c146 z146 => pR r146 fun n147 r148 => pR r148 fun n149 r150 => joinX (fun (x178 : (AP × Nat × ACap × Nat) × Int × Int × Int) (h179 : AH) => pR x178 fun u181 r181 => pR u181 fun p181 r181a => pR r181a fun l181 r181b => pR r181b fun c181 z181 => pR r181 fun n182 r183 => pR r183 fun n184 r185 => joinX (fun (x214 : (AP × Nat × ACap × Nat) × Int × Int × Int) (h215 : AH) => pR x214 fun u217 r217 => pR u217 fun p217 r217a => pR r217a fun l217 r217b => pR r217b fun c217 z217 => pR r217 fun n218 r219 => pR r219 fun n220 r221 => fB (iLt r221 n220) fun b223 => ifA b223 (nilK p217 fun g248 o249 => idxK n218 l217 fun m250 => fN (Nat.add o249 (Nat.mul m250 1)) fun o251 => rowK h215 g248 fun cs252 => ldI cs252 o251 .i64 fun n253 => nilK p217 fun g254 o255 => idxK r221 l217 fun m256 => fN (Nat.add o255 (Nat.mul m256 1)) fun o257 => rowK h215 g254 fun cs258 => ldI cs258 o257 .i64 fun n259 => nilK p217 fun g260 o261 => idxK r221 l217 fun m262 => fN (Nat.add o261 (Nat.mul m262 1)) fun o263 => sto1 h215 g260 o263 (AS.int .i64 n253) fun h264 => nilK p217 fun g265 o266 => idxK n218 l217 fun m267 => fN (Nat.add o266 (Nat.mul m267 1)) fun o268 => sto1 h264 g265 o268 (AS.int .i64 n259) fun h269 => K (AV.tup [AV.s (AS.int .i64 r221), AV.s (AS.bool false)]) h269) (nilK p217 fun g224 o225 => idxK r221 l217 fun m226 => fN (Nat.add o225 (Nat.mul m226 1)) fun o227 => rowK h215 g224 fun cs228 => ldI cs228 o227 .i64 fun n229 => nilK p217 fun g230 o231 => idxK n220 l217 fun m232 => fN (Nat.add o231 (Nat.mul m232 1)) fun o233 => rowK h215 g230 fun cs234 => ldI cs234 o233 .i64 fun n235 => nilK p217 fun g236 o237 => idxK n220 l217 fun m238 => fN (Nat.add o237 (Nat.mul m238 1)) fun o239 => sto1 h215 g236 o239 (AS.int .i64 n229) fun h240 => nilK p217 fun g241 o242 => idxK r221 l217 fun m243 => fN (Nat.add o242 (Nat.mul m243 1)) fun o244 => sto1 h240 g241 o244 (AS.int .i64 n235) fun h245 => w64 (iAdd n220 (Int.ofNat 1)) fun n246 => w64 (iSub r221 (Int.ofNat 1)) fun n247 => self145 ((p217, l217, c217, z217), n218, n246, n247) h245)) fun J216 => (loopX lf (fun (self189 : ((AP × Nat × ACap × Nat) × Int × Int × Int) → AH → Bool) (x187 : (AP × Nat × ACap × Nat) × Int × Int × Int) (h188 : AH) => pR x187 fun u190 r190 => pR u190 fun p190 r190a => pR r190a fun l190 r190b => pR r190b fun c190 z190 => pR r190 fun n191 r192 => pR r192 fun n193 r194 => fB (iLe n193 r194) fun b196 => ifA b196 (nilK p190 fun g197 o198 => idxK r194 l190 fun m199 => fN (Nat.add o198 (Nat.mul m199 1)) fun o200 => rowK h188 g197 fun cs201 => ldI cs201 o200 .i64 fun n202 => nilK p190 fun g203 o204 => idxK n191 l190 fun m205 => fN (Nat.add o204 (Nat.mul m205 1)) fun o206 => rowK h188 g203 fun cs207 => ldI cs207 o206 .i64 fun n208 => cl i_cmp_Less_int [AV.s (AS.int .i64 n202), AV.s (AS.int .i64 n208)] h188 fun r209 h210 => arB r209 fun b211 => fB (!b211) fun b212 => ifA b212 (w64 (iSub r194 (Int.ofNat 1)) fun n213 => self189 ((p190, l190, c190, z190), n191, n193, n213) h210) (J216 ((p190, l190, c190, z190), n191, n193, r194) h210)) (J216 ((p190, l190, c190, z190), n191, n193, r194) h188)) ((p181, l181, c181, z181), n182, n184, r185) h179)) fun J180 => (loopX lf (fun (self154 : ((AP × Nat × ACap × Nat) × Int × Int × Int) → AH → Bool) (x152 : (AP × Nat × ACap × Nat) × Int × Int × Int) (h153 : AH) => pR x152 fun u155 r155 => pR u155 fun p155 r155a => pR r155a fun l155 r155b => pR r155b fun c155 z155 => pR r155 fun n156 r157 => pR r157 fun n158 r159 => fB (iLe n158 r159) fun b161 => ifA b161 (nilK p155 fun g162 o163 => idxK n158 l155 fun m164 => fN (Nat.add o163 (Nat.mul m164 1)) fun o165 => rowK h153 g162 fun cs166 => ldI cs166 o165 .i64 fun n167 => nilK p155 fun g168 o169 => idxK n156 l155 fun m170 => fN (Nat.add o169 (Nat.mul m170 1)) fun o171 => rowK h153 g168 fun cs172 => ldI cs172 o171 .i64 fun n173 => cl i_cmp_Less_int [AV.s (AS.int .i64 n167), AV.s (AS.int .i64 n173)] h153 fun r174 h175 => arB r174 fun b176 => ifA b176 (w64 (iAdd n158 (Int.ofNat 1)) fun n177 => self154 ((p155, l155, c155, z155), n156, n177, r159) h175) (J180 ((p155, l155, c155, z155), n156, n158, r159) h175)) (J180 ((p155, l155, c155, z155), n156, n158, r159) h153)) ((p146, l146, c146, z146), n147, n149, r150) h144)) ((p90, l90, c90, z90), n91, n141, n142) h140))) fun J89 => (loopX lf (fun (self62 : ((AP × Nat × ACap × Nat) × Int × Int × Int) → AH → Bool) (x60 : (AP × Nat × ACap × Nat) × Int × Int × Int) (h61 : AH) => pR x60 fun u63 r63 => pR u63 fun p63 r63a => pR r63a fun l63 r63b => pR r63b fun c63 z63 => pR r63 fun n64 r65 => pR r65 fun n66 r67 => fB (iLe n66 r67) fun b69 => ifA b69 (nilK p63 fun g70 o71 => idxK r67 l63 fun m72 => fN (Nat.add o71 (Nat.mul m72 1)) fun o73 => rowK h61 g70 fun cs74 => ldI cs74 o73 .i64 fun n75 => nilK p63 fun g76 o77 => idxK n64 l63 fun m78 => fN (Nat.add o77 (Nat.mul m78 1)) fun o79 => rowK h61 g76 fun cs80 => ldI cs80 o79 .i64 fun n81 => cl i_cmp_Less_int [AV.s (AS.int .i64 n75), AV.s (AS.int .i64 n81)] h61 fun r82 h83 => arB r82 fun b84 => fB (!b84) fun b85 => ifA b85 (w64 (iSub r67 (Int.ofNat 1)) fun n86 => self62 ((p63, l63, c63, z63), n64, n66, n86) h83) (J89 ((p63, l63, c63, z63), n64, n66, r67) h83)) (J89 ((p63, l63, c63, z63), n64, n66, r67) h61)) ((p54, l54, c54, z54), n55, n57, r58) h52)) fun J53 => (loopX lf (fun (self27 : ((AP × Nat × ACap × Nat) × Int × Int × Int) → AH → Bool) (x25 : (AP × Nat × ACap × Nat) × Int × Int × Int) (h26 : AH) => pR x25 fun u28 r28 => pR u28 fun p28 r28a => pR r28a fun l28 r28b => pR r28b fun c28 z28 => pR r28 fun n29 r30 => pR r30 fun n31 r32 => fB (iLe n31 r32) fun b34 => ifA b34 (nilK p28 fun g35 o36 => idxK n31 l28 fun m37 => fN (Nat.add o36 (Nat.mul m37 1)) fun o38 => rowK h26 g35 fun cs39 => ldI cs39 o38 .i64 fun n40 => nilK p28 fun g41 o42 => idxK n29 l28 fun m43 => fN (Nat.add o42 (Nat.mul m43 1)) fun o44 => rowK h26 g41 fun cs45 => ldI cs45 o44 .i64 fun n46 => cl i_cmp_Less_int [AV.s (AS.int .i64 n40), AV.s (AS.int .i64 n46)] h26 fun r47 h48 => arB r47 fun b49 => ifA b49 (w64 (iAdd n31 (Int.ofNat 1)) fun n50 => self27 ((p28, l28, c28, z28), n29, n50, r32) h48) (J53 ((p28, l28, c28, z28), n29, n31, r32) h48)) (J53 ((p28, l28, c28, z28), n29, n31, r32) h26)) ((q0p, q0n, q0c, q0z), q1, n23, n24) h22)
def L_slices_partitionOrdered_int : Nat → LoopA := fun id => match id with
  | 3 => ⟨(AP × Nat × ACap × Nat) × Int × Int × Int, (.pair (EncA.slice 0) (.pair (EncA.int .i64 1) (.pair (EncA.int .i64 10) (EncA.int .i64 11))))⟩
  | 5 => ⟨(AP × Nat × ACap × Nat) × Int × Int × Int, (.pair (EncA.slice 0) (.pair (EncA.int .i64 1) (.pair (EncA.int .i64 10) (EncA.int .i64 11))))⟩
  | 13 => ⟨(AP × Nat × ACap × Nat) × Int × Int × Int, (.pair (EncA.slice 0) (.pair (EncA.int .i64 1) (.pair (EncA.int .i64 10) (EncA.int .i64 11))))⟩
  | 15 => ⟨(AP × Nat × ACap × Nat) × Int × Int × Int, (.pair (EncA.slice 0) (.pair (EncA.int .i64 1) (.pair (EncA.int .i64 10) (EncA.int .i64 11))))⟩
  | _ => noA
def R_slices_partitionOrdered_int : Nat → RegHint := fun id => match id with
  | 1 => ⟨(.op 0 (.op 1 (.op 2 (.op 3 (.op 4 (.op 5 (.op 6 (.op 7 (.op 8 (.op 9 (.op 10 (.op 11 (.op 12 (.op 13 (.op 14 (.op 15 .nil)))))))))))))))), 0, 0, 13, 0⟩
  | 3 => ⟨(.op 0 (.op 1 (.op 2 (.op 3 (.op 4 (.op 5 (.op 6 (.op 7 (.op 8 (.op 9 (.op 10 (.op 11 (.op 12 (.op 13 .nil)))))))))))))), 0, 0, 12, 0⟩
  | 5 => ⟨(.op 0 (.op 1 (.op 2 (.op 3 (.op 4 (.op 5 (.op 6 (.op 7 (.op 8 (.op 9 (.op 10 (.op 11 (.op 12 (.op 13 (.op 14 .nil))))))))))))))), 0, 0, 12, 0⟩
  | 8 => ⟨(.op 0 (.op 1 (.op 2 (.op 3 (.op 4 (.op 5 (.op 6 (.op 7 (.op 8 (.op 9 (.op 10 (.op 11 (.op 12 (.op 13 (.op 14 (.op 15 .nil)))))))))))))))), 0, 0, 13, 0⟩
  | 10 => ⟨(.op 0 (.op 1 (.op 2 (.op 3 (.op 4 (.op 5 (.op 6 (.op 7 (.op 8 (.op 9 (.op 10 (.op 11 (.op 12 (.op 13 (.op 14 (.op 15 .nil)))))))))))))))), 0, 0, 13, 0⟩
  | 13 => ⟨(.op 0 (.op 1 (.op 2 (.op 3 (.op 4 (.op 5 (.op 6 (.op 7 (.op 8 (.op 9 (.op 10 (.op 11 (.op 12 (.op 13 .nil)))))))))))))), 0, 0, 12, 0⟩
  | 15 => ⟨(.op 0 (.op 1 (.op 2 (.op 3 (.op 4 (.op 5 (.op 6 (.op 7 (.op 8 (.op 9 (.op 10 (.op 11 (.op 12 (.op 13 (.op 14 .nil))))))))))))))), 0, 0, 12, 0⟩
  | 18 => ⟨(.op 0 (.op 1 (.op 2 (.op 3 (.op 4 (.op 5 (.op 6 (.op 7 (.op 8 (.op 9 (.op 10 (.op 11 (.op 12 (.op 13 (.op 14 (.op 15 .nil)))))))))))))))), 0, 0, 13, 0⟩
  | 21 => ⟨(.op 0 (.op 1 (.op 2 (.op 3 (.op 4 (.op 5 (.op 6 (.op 7 (.op 8 (.op 9 (.op 10 (.op 11 (.op 12 (.op 13 (.op 14 (.op 15 .nil)))))))))))))))), 0, 0, 13, 0⟩
  | _ => ⟨.nil, 0, 0, 0, 0⟩
def J_slices_partitionOrdered_int : Option Nat → Option LoopA := fun id => match id with
  | some 5 => some ⟨(AP × Nat × ACap × Nat) × Int × Int × Int, (.pair (EncA.slice 0) (.pair (EncA.int .i64 1) (.pair (EncA.int .i64 10) (EncA.int .i64 11))))⟩
  | some 7 => some ⟨(AP × Nat × ACap × Nat) × Int × Int × Int, (.pair (EncA.slice 0) (.pair (EncA.int .i64 1) (.pair (EncA.int .i64 10) (EncA.int .i64 11))))⟩
  | some 15 => some ⟨(AP × Nat × ACap × Nat) × Int × Int × Int, (.pair (EncA.slice 0) (.pair (EncA.int .i64 1) (.pair (EncA.int .i64 10) (EncA.int .i64 11))))⟩
  | some 17 => some ⟨(AP × Nat × ACap × Nat) × Int × Int × Int, (.pair (EncA.slice 0) (.pair (EncA.int .i64 1) (.pair (EncA.int .i64 10) (EncA.int .i64 11))))⟩
  | _ => none
theorem E_slices_partitionOrdered_int (lf : Nat) (cl : Cl) : PK.Eq [.slice, .int .i64, .int .i64, .int .i64] (evFn PG cl L_slices_partitionOrdered_int R_slices_partitionOrdered_int J_slices_partitionOrdered_int lf Tryz.f96) (B_slices_partitionOrdered_int lf cl) := by intro q0p q0n q0c q0z q1 q2 q3 H K; kernel_rfl
theorem O_slices_partitionOrdered_int (lf : Nat) (w0 : World) : OkB PG w0 i_slices_partitionOrdered_int (PK.run [.slice, .int .i64, .int .i64, .int .i64] (B_slices_partitionOrdered_int lf)) := okb mix (fn := Tryz.f96) rfl (E_slices_partitionOrdered_int lf)

/-- slices.DeleteFunc[[]int,int] -/
def B_slices_DeleteFunc_int (lf : Nat) (cl : Cl) (q0p : AP) (q0n : Nat) (q0c : ACap) (q0z : Nat) (q1 : AV) (H : AH) (K : AV → AH → Bool) : Bool :=
  cl i_slices_IndexFunc_int [AV.s (AS.slice q0p q0n q0c q0z), q1] H fun r1 h2 => arI r1 .i64 fun n3 => fB (iEq n3 (Int.negSucc 0)) fun b4 => ifA b4 (K (AV.s (AS.slice q0p q0n q0c q0z)) h2) (w64 (iAdd n3 (Int.ofNat 1)) fun n5 => (loopX lf (fun (self8 : ((AP × Nat × ACap × Nat) × AV × Int × Int) → AH → Bool) (x6 : (AP × Nat × ACap × Nat) × AV × Int × Int) (h7 : AH) => pR x6 fun u9 r9 => pR u9 fun p9 r9a => pR r9a fun l9 r9b => pR r9b fun c9 z9 => pR r9 fun v10 r11 => pR r11 fun n12 r13 => fB (iLt r13 (Int.ofNat l9)) fun b15 => ifA b15 (nilK p9 fun g16 o17 => idxK r13 l9 fun m18 => fN (Nat.add o17 (Nat.mul m18 1)) fun o19 => rowK h7 g16 fun cs20 => ldI cs20 o19 .i64 fun n21 => callV PG cl none (v10) [AV.s (AS.int .i64 n21)] h7 fun r22 h23 => asB r22 fun b24 => fB (!b24) fun b25 => ifA b25 (nilK p9 fun g26 o27 => idxK n12 l9 fun m28 => fN (Nat.add o27 (Nat.mul m28 1)) fun o29 => sto1 h23 g26 o29 (AS.int .i64 n21) fun h30 => w64 (iAdd n12 (Int.ofNat 1)) fun n31 => w64 (iAdd r13 (Int.ofNat 1)) fun n32 => self8 ((p9, l9, c9, z9), v10, n31, n32) h30) (w64 (iAdd r13 (Int.ofNat 1)) fun n33 => self8 ((p9, l9, c9, z9), v10, n12, n33) h23)) (okK (isNilP p9 || Nat.beq z9 1) (natK n12 fun m34 => slcA p9 l9 c9 1 m34 l9 fun p35 l35 c35 z35 => clrA none h7 p35 l35 [AS.int .i64 (Int.ofNat 0)] fun h36 => okK (isNilP p9 || Nat.beq z9 1) (natK n12 fun m37 => slcA p9 l9 c9 1 0 m37 fun p38 l38 c38 z38 => K (AV.s (AS.slice p38 l38 c38 z38)) h36)))) ((q0p, q0n, q0c, q0z), q1, n3, n5) h2))
def L_slices_DeleteFunc_int : Nat → LoopA := fun id => match id with
  | 5 => ⟨(AP × Nat × ACap × Nat) × AV × Int × Int, (.pair (EncA.slice 0) (.pair (EncA.val 1) (.pair (EncA.int .i64 5) (EncA.int .i64 6))))⟩
  | _ => noA
theorem E_slices_DeleteFunc_int (lf : Nat) (cl : Cl) : PK.Eq [.slice, .val] (evFn PG cl L_slices_DeleteFunc_int noR noJ lf Tryz.f107) (B_slices_DeleteFunc_int lf cl) := by intro q0p q0n q0c q0z q1 H K; kernel_rfl
theorem O_slices_DeleteFunc_int (lf : Nat) (w0 : World) : OkB PG w0 i_slices_DeleteFunc_int (PK.run [.slice, .val] (B_slices_DeleteFunc_int lf)) := okb mix (fn := Tryz.f107) rfl (E_slices_DeleteFunc_int lf)

/-- slices.siftDownOrdered[int] -/
def B_slices_siftDownOrdered_int (lf : Nat) (cl : Cl) (q0p : AP) (q0n : Nat) (q0c : ACap) (q0z : Nat) (q1 : Int) (q2 : Int) (q3 : Int) (H : AH) (K : AV → AH → Bool) : Bool :=
  (loopX lf (fun (self3 : ((AP × Nat × ACap × Nat) × Int × Int × Int) → AH → Bool) (x1 : (AP × Nat × ACap × Nat) × Int × Int × Int) (h2 : AH) => pR x1 fun u4 r4 => pR u4 fun p4 r4a => pR r4a fun l4 r4b => pR r4b fun c4 z4 => pR r4 fun n5 r6 => pR r6 fun n7 r8 => w64 (iMul (Int.ofNat 2) r8) fun n10 => w64 (iAdd n10 (Int.ofNat 1)) fun n11 => fB (iLe n5 n11) fun b12 => ifA b12 (K (AV.tup []) h2) (joinX (fun (x34 : (AP × Nat × ACap × Nat) × Int × Int × Int × Int) (h35 : AH) => pR x34 fun u37 r37 => pR u37 fun p37 r37a => pR r37a fun l37 r37b => pR r37b fun c37 z37 => pR r37 fun n38 r39 => pR r39 fun n40 r41 => pR r41 fun n42 r43 => w64 (iAdd n40 n42) fun n45 => nilK p37 fun g46 o47 => idxK n45 l37 fun m48 => fN (Nat.add o47 (Nat.mul m48 1)) fun o49 => rowK h35 g46 fun cs50 => ldI cs50 o49 .i64 fun n51 => w64 (iAdd n40 r43) fun n52 => nilK p37 fun g53 o54 => idxK n52 l37 fun m55 => fN (Nat.add o54 (Nat.mul m55 1)) fun o56 => rowK h35 g53 fun cs57 => ldI cs57 o56 .i64 fun n58 => cl i_cmp_Less_int [AV.s (AS.int .i64 n51), AV.s (AS.int .i64 n58)] h35 fun r59 h60 => arB r59 fun b61 => fB (!b61) fun b62 => ifA b62 (K (AV.tup []) h60) (w64 (iAdd n40 n42) fun n63 => w64 (iAdd n40 r43) fun n64 => w64 (iAdd n40 r43) fun n65 => nilK p37 fun g66 o67 => idxK n65 l37 fun m68 => fN (Nat.add o67 (Nat.mul m68 1)) fun o69 => rowK h60 g66 fun cs70 => ldI cs70 o69 .i64 fun n71 => w64 (iAdd n40 n42) fun n72 => nilK p37 fun g73 o74 => idxK n72 l37 fun m75 => fN (Nat.add o74 (Nat.mul m75 1)) fun o76 => rowK h60 g73 fun cs77 => ldI cs77 o76 .i64 fun n78 => nilK p37 fun g79 o80 => idxK n63 l37 fun m81 => fN (Nat.add o80 (Nat.mul m81 1)) fun o82 => sto1 h60 g79 o82 (AS.int .i64 n71) fun h83 => nilK p37 fun g84 o85 => idxK n64 l37 fun m86 => fN (Nat.add o85 (Nat.mul m86 1)) fun o87 => sto1 h83 g84 o87 (AS.int .i64 n78) fun h88 => self3 ((p37, l37, c37, z37), n38, n40, r43) h88)) fun J36 => w64 (iAdd n11 (Int.ofNat 1)) fun n13 => fB (iLt n13 n5) fun b14 => ifA b14 (w64 (iAdd n7 n11) fun n15 => nilK p4 fun g16 o17 => idxK n15 l4 fun m18 => fN (Nat.add o17 (Nat.mul m18 1)) fun o19 => rowK h2 g16 fun cs20 => ldI cs20 o19 .i64 fun n21 => w64 (iAdd n7 n11) fun n22 => w64 (iAdd n22 (Int.ofNat 1)) fun n23 => nilK p4 fun g24 o25 => idxK n23 l4 fun m26 => fN (Nat.add o25 (Nat.mul m26 1)) fun o27 => rowK h2 g24 fun cs28 => ldI cs28 o27 .i64 fun n29 => cl i_cmp_Less_int [AV.s (AS.int .i64 n21), AV.s (AS.int .i64 n29)] h2 fun r30 h31 => arB r30 fun b32 => ifA b32 (w64 (iAdd n11 (Int.ofNat 1)) fun n33 => J36 ((p4, l4, c4, z4), n5, n7, r8, n33) h31) (J36 ((p4, l4, c4, z4), n5, n7, r8, n11) h31)) (J36 ((p4, l4, c4, z4), n5, n7, r8, n11) h2))) ((q0p, q0n, q0c, q0z), q2, q3, q1) H)
def L_slices_siftDownOrdered_int : Nat → LoopA := fun id => match id with
  | 1 => ⟨(AP × Nat × ACap × Nat) × Int × Int × Int, (.pair (EncA.slice 0) (.pair (EncA.int .i64 2) (.pair (EncA.int .i64 3) (EncA.int .i64 8))))⟩
  | _ => noA
def R_slices_siftDownOrdered_int : Nat → RegHint := fun id => match id with
  | 3 => ⟨(.op 0 (.op 1 (.op 2 (.op 3 (.op 4 (.op 5 (.op 6 (.op 7 (.op 8 (.op 9 (.op 10 (.op 11 (.op 12 (.op 13 (.op 14 (.op 15 (.op 16 (.op 17 (.op 18 (.op 19 .nil)))))))))))))))))))), 0, 0, 18, 0⟩
  | 5 => ⟨(.op 0 (.op 1 (.op 2 (.op 3 (.op 4 (.op 5 (.op 6 (.op 7 (.op 8 (.op 9 (.op 10 (.op 11 (.op 12 (.op 13 .nil)))))))))))))), 0, 0, 12, 0⟩
  | 6 => ⟨(.op 0 (.op 1 (.op 2 (.op 3 (.op 4 (.op 5 (.op 6 (.op 7 (.op 8 (.op 9 (.op 10 (.op 11 (.op 12 (.op 13 (.op 14 (.op 15 (.op 16 (.op 17 (.op 18 (.op 19 (.op 20 (.op 21 (.op 22 (.op 23 .nil)))))))))))))))))))))))), 0, 0, 21, 0⟩
  | _ => ⟨.nil, 0, 0, 0, 0⟩
def J_slices_siftDownOrdered_int : Option Nat → Option LoopA := fun id => match id with
  | some 5 => some ⟨(AP × Nat × ACap × Nat) × Int × Int × Int × Int, (.pair (EncA.slice 0) (.pair (EncA.int .i64 2) (.pair (EncA.int .i64 3) (.pair (EncA.int .i64 8) (EncA.int .i64 9)))))⟩
  | _ => none
theorem E_slices_siftDownOrdered_int (lf : Nat) (cl : Cl) : PK.Eq [.slice, .int .i64, .int .i64, .int .i64] (evFn PG cl L_slices_siftDownOrdered_int R_slices_siftDownOrdered_int J_slices_siftDownOrdered_int lf Tryz.f111) (B_slices_siftDownOrdered_int lf cl) := by intro q0p q0n q0c q0z q1 q2 q3 H K; kernel_rfl
theorem O_slices_siftDownOrdered_int (lf : Nat) (w0 : World) : OkB PG w0 i_slices_siftDownOrdered_int (PK.run [.slice, .int .i64, .int .i64, .int .i64] (B_slices_siftDownOrdered_int lf)) := okb mix (fn := Tryz.f111) rfl (E_slices_siftDownOrdered_int lf)

/-- slices.nextPowerOfTwo -/
def B_slices_nextPowerOfTwo (lf : Nat) (cl : Cl) (q0 : Int) (H : AH) (K : AV → AH → Bool) : Bool :=
  wrapK .u64 (q0) fun n1 => cl i_math_bits_Len [AV.s (AS.int .u64 n1)] H fun r2 h3 => arI r2 .i64 fun n4 => okK (iLe (Int.ofNat 0) n4) (wrapK .u64 ((Int.ofNat 1) * 2 ^ (min (Int.toNat n4) (IntKind.bits .u64))) fun n5 => K (AV.s (AS.int .u64 n5)) h3)
theorem E_slices_nextPowerOfTwo (lf : Nat) (cl : Cl) : PK.Eq [.int .i64] (evFn PG cl noL noR noJ lf Tryz.f112) (B_slices_nextPowerOfTwo lf cl) := by intro q0 H K; kernel_rfl
theorem O_slices_nextPowerOfTwo (lf : Nat) (w0 : World) : OkB PG w0 i_slices_nextPowerOfTwo (PK.run [.int .i64] (B_slices_nextPowerOfTwo lf)) := okb mix (fn := Tryz.f112) rfl (E_slices_nextPowerOfTwo lf)

/-- (*slices.xorshift).Next -/
def B_slices_xorshift_Next (lf : Nat) (cl : Cl) (q0 : AP) (H : AH) (K : AV → AH → Bool) : Bool :=
  nilK q0 fun g1 o2 => rowK H g1 fun cs3 => ldI cs3 o2 .u64 fun n4 => nilK q0 fun g5 o6 => rowK H g5 fun cs7 => ldI cs7 o6 .u64 fun n8 => wrapK .u64 (n8 * 2 ^ (min (Int.toNat (Int.ofNat 13)) (IntKind.bits .u64))) fun n9 => wrapK .u64 (BitVec.toNat (BitVec.ofInt (IntKind.bits .u64) n4 ^^^ BitVec.ofInt (IntKind.bits .u64) n9)) fun n10 => nilK q0 fun g11 o12 => sto1 H g11 o12 (AS.int .u64 n10) fun h13 => nilK q0 fun g14 o15 => rowK h13 g14 fun cs16 => ldI cs16 o15 .u64 fun n17 => nilK q0 fun g18 o19 => rowK h13 g18 fun cs20 => ldI cs20 o19 .u64 fun n21 => fI (Int.fdiv n21 (2 ^ (min (Int.toNat (Int.ofNat 7)) (IntKind.bits .u64)))) fun n22 => wrapK .u64 (BitVec.toNat (BitVec.ofInt (IntKind.bits .u64) n17 ^^^ BitVec.ofInt (IntKind.bits .u64) n22)) fun n23 => nilK q0 fun g24 o25 => sto1 h13 g24 o25 (AS.int .u64 n23) fun h26 => nilK q0 fun g27 o28 => rowK h26 g27 fun cs29 => ldI cs29 o28 .u64 fun n30 => nilK q0 fun g31 o32 => rowK h26 g31 fun cs33 => ldI cs33 o32 .u64 fun n34 => wrapK .u64 (n34 * 2 ^ (min (Int.toNat (Int.ofNat 17)) (IntKind.bits .u64))) fun n35 => wrapK .u64 (BitVec.toNat (BitVec.ofInt (IntKind.bits .u64) n30 ^^^ BitVec.ofInt (IntKind.bits .u64) n35)) fun n36 => nilK q0 fun g37 o38 => sto1 h26 g37 o38 (AS.int .u64 n36) fun h39 => nilK q0 fun g40 o41 => rowK h39 g40 fun cs42 => ldI cs42 o41 .u64 fun n43 => K (AV.s (AS.int .u64 n43)) h39
def R_slices_xorshift_Next : Nat → RegHint := fun id => match id with
  | 1 => ⟨(.op 0 (.op 1 (.op 2 (.op 3 (.op 4 (.op 5 (.op 6 (.op 7 (.op 8 (.op 9 .nil)))))))))), 0, 0, 9, 0⟩
  | 2 => ⟨(.op 0 (.op 1 (.op 2 (.op 3 (.op 4 (.op 5 (.op 6 (.op 7 (.op 8 (.op 9 .nil)))))))))), 0, 0, 9, 0⟩
  | 3 => ⟨(.op 0 (.op 1 (.op 2 (.op 3 (.op 4 (.op 5 (.op 6 (.op 7 (.op 8 (.op 9 .nil)))))))))), 0, 0, 9, 0⟩
  | _ => ⟨.nil, 0, 0, 0, 0⟩
theorem E_slices_xorshift_Next (lf : Nat) (cl : Cl) : PK.Eq [.ptr] (evFn PG cl noL R_slices_xorshift_Next noJ lf Tryz.f113) (B_slices_xorshift_Next lf cl) := by intro q0 H K; kernel_rfl
theorem O_slices_xorshift_Next (lf : Nat) (w0 : World) : OkB PG w0 i_slices_xorshift_Next (PK.run [.ptr] (B_slices_xorshift_Next lf)) := okb mix (fn := Tryz.f113) rfl (E_slices_xorshift_Next lf)

/-- slices.medianAdjacentOrdered[int] -/
def B_slices_medianAdjacentOrdered_int (lf : Nat) (cl : Cl) (q0p : AP) (q0n : Nat) (q0c : ACap) (q0z : Nat) (q1 : Int) (q2 : AP) (H : AH) (K : AV → AH → Bool) : Bool :=
  w64 (iSub q1 (Int.ofNat 1)) fun n1 => w64 (iAdd q1 (Int.ofNat 1)) fun n2 => cl i_slices_medianOrdered_int [AV.s (AS.slice q0p q0n q0c q0z), AV.s (AS.int .i64 n1), AV.s (AS.int .i64 q1), AV.s (AS.int .i64 n2), AV.s (AS.ptr q2)] H fun r3 h4 => arI r3 .i64 fun n5 => K (AV.s (AS.int .i64 n5)) h4
theorem E_slices_medianAdjacentOrdered_int (lf : Nat) (cl : Cl) : PK.Eq [.slice, .int .i64, .ptr] (evFn PG cl noL noR noJ lf Tryz.f114) (B_slices_medianAdjacentOrdered_int lf cl) := by intro q0p q0n q0c q0z q1 q2 H K; kernel_rfl
theorem O_slices_medianAdjacentOrdered_int (lf : Nat) (w0 : World) : OkB PG w0 i_slices_medianAdjacentOrdered_int (PK.run [.slice, .int .i64, .ptr] (B_slices_medianAdjacentOrdered_int lf)) := okb mix (fn := Tryz.f114) rfl (E_slices_medianAdjacentOrdered_int lf)

/-- slices.medianOrdered[int] -/
def B_slices_medianOrdered_int (lf : Nat) (cl : Cl) (q0p : AP) (q0n : Nat) (q0c : ACap) (q0z : Nat) (q1 : Int) (q2 : Int) (q3 : Int) (q4 : AP) (H : AH) (K : AV → AH → Bool) : Bool :=
  cl i_slices_order2Ordered_int [AV.s (AS.slice q0p q0n q0c q0z), AV.s (AS.int .i64 q1), AV.s (AS.int .i64 q2), AV.s (AS.ptr q4)] H fun r1 h2 => tup2 r1 fun x3 x4 => arI x3 .i64 fun n5 => arI x4 .i64 fun n6 => cl i_slices_order2Ordered_int [AV.s (AS.slice q0p q0n q0c q0z), AV.s (AS.int .i64 n6), AV.s (AS.int .i64 q3), AV.s (AS.ptr q4)] h2 fun r7 h8 => tup2 r7 fun x9 x10 => arI x9 .i64 fun n11 => arI x10 .i64 fun n12 => cl i_slices_order2Ordered_int [AV.s (AS.slice q0p q0n q0c q0z), AV.s (AS.int .i64 n5), AV.s (AS.int .i64 n11), AV.s (AS.ptr q4)] h8 fun r13 h14 => tup2 r13 fun x15 x16 => arI x15 .i64 fun n17 => arI x16 .i64 fun n18 => K (AV.s (AS.int .i64 n18)) h14
theorem E_slices_medianOrdered_int (lf : Nat) (cl : Cl) : PK.Eq [.slice, .int .i64, .int .i64, .int .i64, .ptr] (evFn PG cl noL noR noJ lf Tryz.f115) (B_slices_medianOrdered_int lf cl) := by intro q0p q0n q0c q0z q1 q2 q3 q4 H K; kernel_rfl
theorem O_slices_medianOrdered_int (lf : Nat) (w0 : World) : OkB PG w0 i_slices_medianOrdered_int (PK.run [.slice, .int .i64, .int .i64, .int .i64, .ptr] (B_slices_medianOrdered_int lf)) := okb mix (fn := Tryz.f115) rfl (E_slices_medianOrdered_int lf)

/-- slices.IndexFunc[[]int,int] -/
def B_slices_IndexFunc_int (lf : Nat) (cl : Cl) (q0p : AP) (q0n : Nat) (q0c : ACap) (q0z : Nat) (q1 : AV) (H : AH) (K : AV → AH → Bool) : Bool :=
  (loopX lf (fun (self3 : ((AP × Nat × ACap × Nat) × AV × Int × Int) → AH → Bool) (x1 : (AP × Nat × ACap × Nat) × AV × Int × Int) (h2 : AH) => pR x1 fun u4 r4 => pR u4 fun p4 r4a => pR r4a fun l4 r4b => pR r4b fun c4 z4 => pR r4 fun v5 r6 => pR r6 fun n7 r8 => fB (iLt r8 n7) fun b10 => ifA b10 (nilK p4 fun g11 o12 => idxK r8 l4 fun m13 => fN (Nat.add o12 (Nat.mul m13 1)) fun o14 => rowK h2 g11 fun cs15 => ldI cs15 o14 .i64 fun n16 => callV PG cl none (v5) [AV.s (AS.int .i64 n16)] h2 fun r17 h18 => asB r17 fun b19 => ifA b19 (K (AV.s (AS.int .i64 r8)) h18) (w64 (iAdd r8 (Int.ofNat 1)) fun n20 => self3 ((p4, l4, c4, z4), v5, n7, n20) h18)) (K (AV.s (AS.int .i64 (Int.negSucc 0))) h2)) ((q0p, q0n, q0c, q0z), q1, (Int.ofNat q0n), (Int.ofNat 0)) H)
def L_slices_IndexFunc_int : Nat → LoopA := fun id => match id with
  | 2 => ⟨(AP × Nat × ACap × Nat) × AV × Int × Int, (.pair (EncA.slice 0) (.pair (EncA.val 1) (.pair (EncA.int .i64 7) (EncA.int .i64 8))))⟩
  | _ => noA
theorem E_slices_IndexFunc_int (lf : Nat) (cl : Cl) : PK.Eq [.slice, .val] (evFn PG cl L_slices_IndexFunc_int noR noJ lf Tryz.f119) (B_slices_IndexFunc_int lf cl) := by intro q0p q0n q0c q0z q1 H K; kernel_rfl
theorem O_slices_IndexFunc_int (lf : Nat) (w0 : World) : OkB PG w0 i_slices_IndexFunc_int (PK.run [.slice, .val] (B_slices_IndexFunc_int lf)) := okb mix (fn := Tryz.f119) rfl (E_slices_IndexFunc_int lf)

/-- slices.Clone[[]int,int] -/
def B_slices_Clone_int (lf : Nat) (cl : Cl) (q0p : AP) (q0n : Nat) (q0c : ACap) (q0z : Nat) (H : AH) (K : AV → AH → Bool) : Bool :=
  fB (isNilP q0p) fun b1 => ifA b1 (K (AV.s (AS.slice AP.nil 0 (.lit 0) 1)) H) (newK H (.row []) fun g2 h3 => elK h3 q0p q0n 1 fun ys4 => appA h3 (.at g2 0) 0 1 1 8 ys4 q0n (.lit 0) fun p6 l6 c6 z6 h5 => K (AV.s (AS.slice p6 l6 c6 z6)) h5)
theorem E_slices_Clone_int (lf : Nat) (cl : Cl) : PK.Eq [.slice] (evFn PG cl noL noR noJ lf Tryz.f120) (B_slices_Clone_int lf cl) := by intro q0p q0n q0c q0z H K; kernel_rfl
theorem O_slices_Clone_int (lf : Nat) (w0 : World) : OkB PG w0 i_slices_Clone_int (PK.run [.slice] (B_slices_Clone_int lf)) := okb mix (fn := Tryz.f120) rfl (E_slices_Clone_int lf)

/-- slices.order2Ordered[int] -/
def B_slices_order2Ordered_int (lf : Nat) (cl : Cl) (q0p : AP) (q0n : Nat) (q0c : ACap) (q0z : Nat) (q1 : Int) (q2 : Int) (q3 : AP) (H : AH) (K : AV → AH → Bool) : Bool :=
  nilK q0p fun g1 o2 => idxK q2 q0n fun m3 => fN (Nat.add o2 (Nat.mul m3 1)) fun o4 => rowK H g1 fun cs5 => ldI cs5 o4 .i64 fun n6 => nilK q0p fun g7 o8 => idxK q1 q0n fun m9 => fN (Nat.add o8 (Nat.mul m9 1)) fun o10 => rowK H g7 fun cs11 => ldI cs11 o10 .i64 fun n12 => cl i_cmp_Less_int [AV.s (AS.int .i64 n6), AV.s (AS.int .i64 n12)] H fun r13 h14 => arB r13 fun b15 => ifA b15 (nilK q3 fun g16 o17 => rowK h14 g16 fun cs18 => ldI cs18 o17 .i64 fun n19 => w64 (iAdd n19 (Int.ofNat 1)) fun n20 => nilK q3 fun g21 o22 => sto1 h14 g21 o22 (AS.int .i64 n20) fun h23 => K (AV.tup [AV.s (AS.int .i64 q2), AV.s (AS.int .i64 q1)]) h23) (K (AV.tup [AV.s (AS.int .i64 q1), AV.s (AS.int .i64 q2)]) h14)
def R_slices_order2Ordered_int : Nat → RegHint := fun id => match id with
  | 1 => ⟨(.op 0 (.op 1 (.op 2 (.op 3 (.op 4 (.op 5 (.op 6 (.op 7 (.op 8 .nil))))))))), 0, 0, 8, 0⟩
  | _ => ⟨.nil, 0, 0, 0, 0⟩
theorem E_slices_order2Ordered_int (lf : Nat) (cl : Cl) : PK.Eq [.slice, .int .i64, .int .i64, .ptr] (evFn PG cl noL R_slices_order2Ordered_int noJ lf Tryz.f121) (B_slices_order2Ordered_int lf cl) := by intro q0p q0n q0c q0z q1 q2 q3 H K; kernel_rfl
theorem O_slices_order2Ordered_int (lf : Nat) (w0 : World) : OkB PG w0 i_slices_order2Ordered_int (PK.run [.slice, .int .i64, .int .i64, .ptr] (B_slices_order2Ordered_int lf)) := okb mix (fn := Tryz.f121) rfl (E_slices_order2Ordered_int lf)

end
end Go.Proofs
end
section
namespace Go.Proofs
open Go Go.Vw Go.Vw.Ev
set_option maxRecDepth 100000
set_option maxHeartbeats 4000000
set_option linter.unusedVariables false
noncomputable section
/-- vedette/cells.Of -/
def B_cells_Of (lf : Nat) (cl : Cl) (q0 : List AS) (H : AH) (K : AV → AH → Bool) : Bool :=
  newK H (.row q0) fun g1 h2 => rowK h2 g1 fun cs3 => ldG cs3 0 2 fun cs4 => cl i_geom_On [AV.agg cs4] h2 fun r5 h6 => arB r5 fun b7 => fB (!b7) fun b8 => ifA b8 (K (AV.tup [AV.s (AS.int .i64 (Int.ofNat 0)), AV.s (AS.int .i64 (Int.ofNat 14))]) h6) (rowK h6 g1 fun cs9 => ldI cs9 0 .i64 fun n10 => w64 (Int.tdiv n10 (Int.ofNat 16)) fun n11 => rowK h6 g1 fun cs12 => ldI cs12 1 .i64 fun n13 => w64 (Int.tdiv n13 (Int.ofNat 16)) fun n14 => cl i_cells_at [AV.s (AS.int .i64 n11), AV.s (AS.int .i64 n14)] h6 fun r15 h16 => arI r15 .i64 fun n17 => K (AV.tup [AV.s (AS.int .i64 n17), AV.s (AS.int .i64 (Int.ofNat 0))]) h16)
theorem E_cells_Of (lf : Nat) (cl : Cl) : PK.Eq [.agg] (evFn PG cl noL noR noJ lf Tryz.f33) (B_cells_Of lf cl) := by intro q0 H K; kernel_rfl
theorem O_cells_Of (lf : Nat) (w0 : World) : OkB PG w0 i_cells_Of (PK.run [.agg] (B_cells_Of lf)) := okb mix (fn := Tryz.f33) rfl (E_cells_Of lf)

/-- vedette/cells.at -/
def B_cells_at (lf : Nat) (cl : Cl) (q0 : Int) (q1 : Int) (H : AH) (K : AV → AH → Bool) : Bool :=
  wrapK .u16 (q0) fun n1 => wrapK .u16 (q1) fun n2 => cl i_morton_Weave [AV.s (AS.int .u16 n1), AV.s (AS.int .u16 n2)] H fun r3 h4 => arI r3 .u32 fun n5 => w64 (n5) fun n6 => K (AV.s (AS.int .i64 n6)) h4
theorem E_cells_at (lf : Nat) (cl : Cl) : PK.Eq [.int .i64, .int .i64] (evFn PG cl noL noR noJ lf Tryz.f57) (B_cells_at lf cl) := by intro q0 q1 H K; kernel_rfl
theorem O_cells_at (lf : Nat) (w0 : World) : OkB PG w0 i_cells_at (PK.run [.int .i64, .int .i64] (B_cells_at lf)) := okb mix (fn := Tryz.f57) rfl (E_cells_at lf)

/-- vedette/cells.Rect -/
def B_cells_Rect (lf : Nat) (cl : Cl) (q0 : Int) (H : AH) (K : AV → AH → Bool) : Bool :=
  newK H (.row [AS.int .i64 (Int.ofNat 0), AS.int .i64 (Int.ofNat 0), AS.int .i64 (Int.ofNat 0), AS.int .i64 (Int.ofNat 0)]) fun g1 h2 => cl i_cells_Is [AV.s (AS.int .i64 q0)] h2 fun r3 h4 => arB r3 fun b5 => fB (!b5) fun b6 => ifA b6 (stoN h4 g1 0 4 [AS.int .i64 (Int.ofNat 0), AS.int .i64 (Int.ofNat 0), AS.int .i64 (Int.ofNat 0), AS.int .i64 (Int.ofNat 0)] fun h7 => rowK h7 g1 fun cs8 => ldG cs8 0 4 fun cs9 => K (AV.tup [AV.agg cs9, AV.s (AS.bool false)]) h7) (cl i_cells_place [AV.s (AS.int .i64 q0)] h4 fun r10 h11 => tup2 r10 fun x12 x13 => arI x12 .i64 fun n14 => arI x13 .i64 fun n15 => w64 (iMul n14 (Int.ofNat 16)) fun n16 => w64 (iMul n15 (Int.ofNat 16)) fun n17 => w64 (iAdd n14 (Int.ofNat 1)) fun n18 => w64 (iMul n18 (Int.ofNat 16)) fun n19 => w64 (iAdd n15 (Int.ofNat 1)) fun n20 => w64 (iMul n20 (Int.ofNat 16)) fun n21 => stoN h11 g1 0 4 [AS.int .i64 n16, AS.int .i64 n17, AS.int .i64 n19, AS.int .i64 n21] fun h22 => rowK h22 g1 fun cs23 => ldG cs23 0 4 fun cs24 => K (AV.tup [AV.agg cs24, AV.s (AS.bool true)]) h22)
theorem E_cells_Rect (lf : Nat) (cl : Cl) : PK.Eq [.int .i64] (evFn PG cl noL noR noJ lf Tryz.f80) (B_cells_Rect lf cl) := by intro q0 H K; kernel_rfl
theorem O_cells_Rect (lf : Nat) (w0 : World) : OkB PG w0 i_cells_Rect (PK.run [.int .i64] (B_cells_Rect lf)) := okb mix (fn := Tryz.f80) rfl (E_cells_Rect lf)

/-- vedette/cells.Is -/
def B_cells_Is (lf : Nat) (cl : Cl) (q0 : Int) (H : AH) (K : AV → AH → Bool) : Bool :=
  fB (iLe (Int.ofNat 0) q0) fun b1 => ifA b1 (fB (iLt q0 (Int.ofNat 16)) fun b2 => K (AV.s (AS.bool b2)) H) (K (AV.s (AS.bool false)) H)
theorem E_cells_Is (lf : Nat) (cl : Cl) : PK.Eq [.int .i64] (evFn PG cl noL noR noJ lf Tryz.f100) (B_cells_Is lf cl) := by intro q0 H K; kernel_rfl
theorem O_cells_Is (lf : Nat) (w0 : World) : OkB PG w0 i_cells_Is (PK.run [.int .i64] (B_cells_Is lf)) := okb mix (fn := Tryz.f100) rfl (E_cells_Is lf)

/-- vedette/cells.place -/
def B_cells_place (lf : Nat) (cl : Cl) (q0 : Int) (H : AH) (K : AV → AH → Bool) : Bool :=
  wrapK .u32 (q0) fun n1 => cl i_morton_Split [AV.s (AS.int .u32 n1)] H fun r2 h3 => tup2 r2 fun x4 x5 => arI x4 .u16 fun n6 => arI x5 .u16 fun n7 => w64 (n6) fun n8 => w64 (n7) fun n9 => K (AV.tup [AV.s (AS.int .i64 n8), AV.s (AS.int .i64 n9)]) h3
theorem E_cells_place (lf : Nat) (cl : Cl) : PK.Eq [.int .i64] (evFn PG cl noL noR noJ lf Tryz.f101) (B_cells_place lf cl) := by intro q0 H K; kernel_rfl
theorem O_cells_place (lf : Nat) (w0 : World) : OkB PG w0 i_cells_place (PK.run [.int .i64] (B_cells_place lf)) := okb mix (fn := Tryz.f101) rfl (E_cells_place lf)

end
end Go.Proofs
end
section
namespace Go.Proofs
open Go Go.Vw Go.Vw.Ev
set_option maxRecDepth 100000
set_option maxHeartbeats 4000000
set_option linter.unusedVariables false
noncomputable section
/-- vedette/fields.IsField -/
def B_fields_IsField (lf : Nat) (cl : Cl) (q0 : List AS) (H : AH) (K : AV → AH → Bool) : Bool :=
  newK H (.row q0) fun g1 h2 => rowK h2 g1 fun cs3 => ldI cs3 0 .i64 fun n4 => fB (iEq n4 (Int.ofNat 0)) fun b5 => ifA b5 (rowK h2 g1 fun cs6 => ldStr cs6 1 fun s7 => fN (ln s7) fun o8 => fB (iLe (Int.ofNat o8) (Int.ofNat 12)) fun b9 => K (AV.s (AS.bool b9)) h2) (rowK h2 g1 fun cs10 => ldStr cs10 1 fun s11 => fB (sEq s11 []) fun b12 => ifA b12 (rowK h2 g1 fun cs13 => ldStr cs13 1 fun s14 => fN (ln s14) fun o15 => fB (iLe (Int.ofNat o15) (Int.ofNat 12)) fun b16 => K (AV.s (AS.bool b16)) h2) (K (AV.s (AS.bool false)) h2))
theorem E_fields_IsField (lf : Nat) (cl : Cl) : PK.Eq [.agg] (evFn PG cl noL noR noJ lf Tryz.f53) (B_fields_IsField lf cl) := by intro q0 H K; kernel_rfl
theorem O_fields_IsField (lf : Nat) (w0 : World) : OkB PG w0 i_fields_IsField (PK.run [.agg] (B_fields_IsField lf)) := okb mix (fn := Tryz.f53) rfl (E_fields_IsField lf)

end
end Go.Proofs
end
section
namespace Go.Proofs
open Go Go.Vw Go.Vw.Ev
set_option maxRecDepth 100000
set_option maxHeartbeats 4000000
set_option linter.unusedVariables false
noncomputable section
/-- vedette/morton.Weave -/
def B_morton_Weave (lf : Nat) (cl : Cl) (q0 : Int) (q1 : Int) (H : AH) (K : AV → AH → Bool) : Bool :=
  wrapK .u32 (q0) fun n1 => cl i_morton_spread [AV.s (AS.int .u32 n1)] H fun r2 h3 => arI r2 .u32 fun n4 => wrapK .u32 (q1) fun n5 => cl i_morton_spread [AV.s (AS.int .u32 n5)] h3 fun r6 h7 => arI r6 .u32 fun n8 => wrapK .u32 (n8 * 2 ^ (min (Int.toNat (Int.ofNat 1)) (IntKind.bits .u32))) fun n9 => wrapK .u32 (BitVec.toNat (BitVec.ofInt (IntKind.bits .u32) n4 ||| BitVec.ofInt (IntKind.bits .u32) n9)) fun n10 => K (AV.s (AS.int .u32 n10)) h7
theorem E_morton_Weave (lf : Nat) (cl : Cl) : PK.Eq [.int .u16, .int .u16] (evFn PG cl noL noR noJ lf Tryz.f79) (B_morton_Weave lf cl) := by intro q0 q1 H K; kernel_rfl
theorem O_morton_Weave (lf : Nat) (w0 : World) : OkB PG w0 i_morton_Weave (PK.run [.int .u16, .int .u16] (B_morton_Weave lf)) := okb mix (fn := Tryz.f79) rfl (E_morton_Weave lf)

/-- vedette/morton.spread -/
def B_morton_spread (lf : Nat) (cl : Cl) (q0 : Int) (H : AH) (K : AV → AH → Bool) : Bool :=
  fL (ap (α := AS) [AS.int .u64 (Int.ofNat 8), AS.int .u32 (Int.ofNat 16711935)] (ap (α := AS) [AS.int .u64 (Int.ofNat 4), AS.int .u32 (Int.ofNat 252645135)] (ap (α := AS) [AS.int .u64 (Int.ofNat 2), AS.int .u32 (Int.ofNat 858993459)] (ap (α := AS) [AS.int .u64 (Int.ofNat 1), AS.int .u32 (Int.ofNat 1431655765)] [])))) fun cs1 => (loopX lf (fun (self4 : (Int × List AS × Int) → AH → Bool) (x2 : Int × List AS × Int) (h3 : AH) => pR x2 fun n5 r6 => pR r6 fun cs7 r8 => fB (iLt r8 (Int.ofNat 4)) fun b10 => ifA b10 (idxK r8 4 fun m11 => fN (Nat.mul m11 2) fun o12 => ldG cs7 o12 2 fun cs13 => newK h3 (.row [AS.int .u64 (Int.ofNat 0), AS.int .u32 (Int.ofNat 0)]) fun g14 h15 => stoN h15 g14 0 2 cs13 fun h16 => rowK h16 g14 fun cs17 => ldI cs17 0 .u64 fun n18 => okK (iLe (Int.ofNat 0) n18) (wrapK .u32 (n5 * 2 ^ (min (Int.toNat n18) (IntKind.bits .u32))) fun n19 => wrapK .u32 (BitVec.toNat (BitVec.ofInt (IntKind.bits .u32) n5 ||| BitVec.ofInt (IntKind.bits .u32) n19)) fun n20 => rowK h16 g14 fun cs21 => ldI cs21 1 .u32 fun n22 => wrapK .u32 (BitVec.toNat (BitVec.ofInt (IntKind.bits .u32) n20 &&& BitVec.ofInt (IntKind.bits .u32) n22)) fun n23 => w64 (iAdd r8 (Int.ofNat 1)) fun n24 => self4 (n23, cs7, n24) h16)) (K (AV.s (AS.int .u32 n5)) h3)) (q0, cs1, (Int.ofNat 0)) H)
def L_morton_spread : Nat → LoopA := fun id => match id with
  | 2 => ⟨Int × List AS × Int, (.pair (EncA.int .u32 0) (.pair (EncA.agg 9) (EncA.int .i64 10)))⟩
  | _ => noA
theorem E_morton_spread (lf : Nat) (cl : Cl) : PK.Eq [.int .u32] (evFn PG cl L_morton_spread noR noJ lf Tryz.f99) (B_morton_spread lf cl) := by intro q0 H K; kernel_rfl
theorem O_morton_spread (lf : Nat) (w0 : World) : OkB PG w0 i_morton_spread (PK.run [.int .u32] (B_morton_spread lf)) := okb mix (fn := Tryz.f99) rfl (E_morton_spread lf)

/-- vedette/morton.Split -/
def B_morton_Split (lf : Nat) (cl : Cl) (q0 : Int) (H : AH) (K : AV → AH → Bool) : Bool :=
  cl i_morton_gather [AV.s (AS.int .u32 q0)] H fun r1 h2 => arI r1 .u32 fun n3 => wrapK .u16 (n3) fun n4 => fI (Int.fdiv q0 (2 ^ (min (Int.toNat (Int.ofNat 1)) (IntKind.bits .u32)))) fun n5 => cl i_morton_gather [AV.s (AS.int .u32 n5)] h2 fun r6 h7 => arI r6 .u32 fun n8 => wrapK .u16 (n8) fun n9 => K (AV.tup [AV.s (AS.int .u16 n4), AV.s (AS.int .u16 n9)]) h7
theorem E_morton_Split (lf : Nat) (cl : Cl) : PK.Eq [.int .u32] (evFn PG cl noL noR noJ lf Tryz.f117) (B_morton_Split lf cl) := by intro q0 H K; kernel_rfl
theorem O_morton_Split (lf : Nat) (w0 : World) : OkB PG w0 i_morton_Split (PK.run [.int .u32] (B_morton_Split lf)) := okb mix (fn := Tryz.f117) rfl (E_morton_Split lf)

/-- vedette/morton.gather -/
def B_morton_gather (lf : Nat) (cl : Cl) (q0 : Int) (H : AH) (K : AV → AH → Bool) : Bool :=
  wrapK .u32 (BitVec.toNat (BitVec.ofInt (IntKind.bits .u32) q0 &&& BitVec.ofInt (IntKind.bits .u32) (Int.ofNat 1431655765))) fun n1 => fL (ap (α := AS) [AS.int .u64 (Int.ofNat 1), AS.int .u32 (Int.ofNat 858993459)] (ap (α := AS) [AS.int .u64 (Int.ofNat 2), AS.int .u32 (Int.ofNat 252645135)] (ap (α := AS) [AS.int .u64 (Int.ofNat 4), AS.int .u32 (Int.ofNat 16711935)] (ap (α := AS) [AS.int .u64 (Int.ofNat 8), AS.int .u32 (Int.ofNat 65535)] [])))) fun cs2 => (loopX lf (fun (self5 : (Int × List AS × Int) → AH → Bool) (x3 : Int × List AS × Int) (h4 : AH) => pR x3 fun n6 r7 => pR r7 fun cs8 r9 => fB (iLt r9 (Int.ofNat 4)) fun b11 => ifA b11 (idxK r9 4 fun m12 => fN (Nat.mul m12 2) fun o13 => ldG cs8 o13 2 fun cs14 => newK h4 (.row [AS.int .u64 (Int.ofNat 0), AS.int .u32 (Int.ofNat 0)]) fun g15 h16 => stoN h16 g15 0 2 cs14 fun h17 => rowK h17 g15 fun cs18 => ldI cs18 0 .u64 fun n19 => okK (iLe (Int.ofNat 0) n19) (fI (Int.fdiv n6 (2 ^ (min (Int.toNat n19) (IntKind.bits .u32)))) fun n20 => wrapK .u32 (BitVec.toNat (BitVec.ofInt (IntKind.bits .u32) n6 ||| BitVec.ofInt (IntKind.bits .u32) n20)) fun n21 => rowK h17 g15 fun cs22 => ldI cs22 1 .u32 fun n23 => wrapK .u32 (BitVec.toNat (BitVec.ofInt (IntKind.bits .u32) n21 &&& BitVec.ofInt (IntKind.bits .u32) n23)) fun n24 => w64 (iAdd r9 (Int.ofNat 1)) fun n25 => self5 (n24, cs8, n25) h17)) (K (AV.s (AS.int .u32 n6)) h4)) (n1, cs2, (Int.ofNat 0)) H)
def L_morton_gather : Nat → LoopA := fun id => match id with
  | 3 => ⟨Int × List AS × Int, (.pair (EncA.int .u32 0) (.pair (EncA.agg 11) (EncA.int .i64 12)))⟩
  | _ => noA
theorem E_morton_gather (lf : Nat) (cl : Cl) : PK.Eq [.int .u32] (evFn PG cl L_morton_gather noR noJ lf Tryz.f122) (B_morton_gather lf cl) := by intro q0 H K; kernel_rfl
theorem O_morton_gather (lf : Nat) (w0 : World) : OkB PG w0 i_morton_gather (PK.run [.int .u32] (B_morton_gather lf)) := okb mix (fn := Tryz.f122) rfl (E_morton_gather lf)

end
end Go.Proofs
end
section
namespace Go.Proofs
open Go Go.Vw Go.Vw.Ev
set_option maxRecDepth 100000
set_option maxHeartbeats 4000000
set_option linter.unusedVariables false
noncomputable section
/-- vedette/thing.Is -/
def B_thing_Is (lf : Nat) (cl : Cl) (q0 : List AS) (H : AH) (K : AV → AH → Bool) : Bool :=
  newK H (.row q0) fun g1 h2 => rowK h2 g1 fun cs3 => ldI cs3 0 .i64 fun n4 => fB (iLe (Int.ofNat 0) n4) fun b5 => ifA b5 (rowK h2 g1 fun cs6 => ldI cs6 0 .i64 fun n7 => fB (iLe n7 (Int.ofNat 1000000)) fun b8 => ifA b8 (rowK h2 g1 fun cs9 => ldG cs9 1 2 fun cs10 => cl i_geom_On [AV.agg cs10] h2 fun r11 h12 => arB r11 fun b13 => ifA b13 (rowK h12 g1 fun cs14 => okK (Nat.ble (11) (ln cs14)) (slcA (.at g1 3) 4 (.lit 4) 2 0 4 fun p15 l15 c15 z15 => cl i_slices_ContainsFunc_Field [AV.s (AS.slice p15 l15 c15 z15), AV.s (AS.func i_thing_Is_1 [] [])] h12 fun r16 h17 => arB r16 fun b18 => fB (!b18) fun b19 => K (AV.s (AS.bool b19)) h17)) (K (AV.s (AS.bool false)) h12)) (K (AV.s (AS.bool false)) h2)) (K (AV.s (AS.bool false)) h2)
theorem E_thing_Is (lf : Nat) (cl : Cl) : PK.Eq [.agg] (evFn PG cl noL noR noJ lf Tryz.f48) (B_thing_Is lf cl) := by intro q0 H K; kernel_rfl
theorem O_thing_Is (lf : Nat) (w0 : World) : OkB PG w0 i_thing_Is (PK.run [.agg] (B_thing_Is lf)) := okb mix (fn := Tryz.f48) rfl (E_thing_Is lf)

/-- vedette/thing.Is$1 -/
def B_thing_Is_1 (lf : Nat) (cl : Cl) (q0 : List AS) (H : AH) (K : AV → AH → Bool) : Bool :=
  newK H (.row q0) fun g1 h2 => rowK h2 g1 fun cs3 => ldG cs3 0 2 fun cs4 => cl i_fields_IsField [AV.agg cs4] h2 fun r5 h6 => arB r5 fun b7 => fB (!b7) fun b8 => K (AV.s (AS.bool b8)) h6
theorem E_thing_Is_1 (lf : Nat) (cl : Cl) : PK.Eq [.agg] (evFn PG cl noL noR noJ lf Tryz.f73) (B_thing_Is_1 lf cl) := by intro q0 H K; kernel_rfl
theorem O_thing_Is_1 (lf : Nat) (w0 : World) : OkB PG w0 i_thing_Is_1 (PK.run [.agg] (B_thing_Is_1 lf)) := okb mix (fn := Tryz.f73) rfl (E_thing_Is_1 lf)

end
end Go.Proofs
end
section
namespace Go.Proofs
open Go Go.Vw Go.Vw.Ev
set_option maxRecDepth 100000
set_option maxHeartbeats 4000000
set_option linter.unusedVariables false
noncomputable section
/-- vedette/table.Of -/
def B_table_Of (lf : Nat) (cl : Cl) (q0p : AP) (q0n : Nat) (q0c : ACap) (q0z : Nat) (H : AH) (K : AV → AH → Bool) : Bool :=
  cl i_table_New [] H fun r1 h2 => asP r1 fun p3 => (loopX lf (fun (self6 : (AP × (AP × Nat × ACap × Nat) × Int × Int) → AH → Bool) (x4 : AP × (AP × Nat × ACap × Nat) × Int × Int) (h5 : AH) => pR x4 fun p7 r8 => pR r8 fun u9 r9 => pR u9 fun p9 r9a => pR r9a fun l9 r9b => pR r9b fun c9 z9 => pR r9 fun n10 r11 => fB (iLt r11 n10) fun b13 => ifA b13 (nilK p9 fun g14 o15 => idxK r11 l9 fun m16 => fN (Nat.add o15 (Nat.mul m16 11)) fun o17 => rowK h5 g14 fun cs18 => ldG cs18 o17 11 fun cs19 => newK h5 (.row [AS.int .i64 (Int.ofNat 0), AS.int .i64 (Int.ofNat 0), AS.int .i64 (Int.ofNat 0), AS.int .i64 (Int.ofNat 0), AS.str [], AS.int .i64 (Int.ofNat 0), AS.str [], AS.int .i64 (Int.ofNat 0), AS.str [], AS.int .i64 (Int.ofNat 0), AS.str []]) fun g20 h21 => stoN h21 g20 0 11 cs19 fun h22 => rowK h22 g20 fun cs23 => ldG cs23 0 11 fun cs24 => cl i_table_Table_Put [AV.s (AS.ptr p7), AV.agg cs24] h22 fun r25 h26 => arI r25 .i64 fun n27 => w64 (iAdd r11 (Int.ofNat 1)) fun n28 => self6 (p7, (p9, l9, c9, z9), n10, n28) h26) (K (AV.s (AS.ptr p7)) h5)) (p3, (q0p, q0n, q0c, q0z), (Int.ofNat q0n), (Int.ofNat 0)) h2)
def L_table_Of : Nat → LoopA := fun id => match id with
  | 3 => ⟨AP × (AP × Nat × ACap × Nat) × Int × Int, (.pair (EncA.ptr 3) (.pair (EncA.slice 7) (.pair (EncA.int .i64 8) (EncA.int .i64 9))))⟩
  | _ => noA
theorem E_table_Of (lf : Nat) (cl : Cl) : PK.Eq [.slice] (evFn PG cl L_table_Of noR noJ lf Tryz.f8) (B_table_Of lf cl) := by intro q0p q0n q0c q0z H K; kernel_rfl
theorem O_table_Of (lf : Nat) (w0 : World) : OkB PG w0 i_table_Of (PK.run [.slice] (B_table_Of lf)) := okb mix (fn := Tryz.f8) rfl (E_table_Of lf)

/-- (*vedette/table.Table).All -/
def B_table_Table_All (lf : Nat) (cl : Cl) (q0 : AP) (H : AH) (K : AV → AH → Bool) : Bool :=
  nilK q0 fun g1 o2 => fN (Nat.add o2 0) fun o3 => rowK H g1 fun cs4 => ldM cs4 o3 fun r5 => cl i_maps_Keys_int_Thing [AV.s (AS.map r5)] H fun r6 h7 => cl i_slices_Sorted_int [r6] h7 fun r8 h9 => asSl r8 fun p10 l10 c10 z10 => cl i_table_Table_of [AV.s (AS.ptr q0), AV.s (AS.slice p10 l10 c10 z10)] h9 fun r11 h12 => asSl r11 fun p13 l13 c13 z13 => K (AV.s (AS.slice p13 l13 c13 z13)) h12
theorem E_table_Table_All (lf : Nat) (cl : Cl) : PK.Eq [.ptr] (evFn PG cl noL noR noJ lf Tryz.f9) (B_table_Table_All lf cl) := by intro q0 H K; kernel_rfl
theorem O_table_Table_All (lf : Nat) (w0 : World) : OkB PG w0 i_table_Table_All (PK.run [.ptr] (B_table_Table_All lf)) := okb mix (fn := Tryz.f9) rfl (E_table_Table_All lf)

/-- vedette/table.New -/
def B_table_New (lf : Nat) (cl : Cl)  (H : AH) (K : AV → AH → Bool) : Bool :=
  newK H (.imap []) fun g1 h2 => cl i_quad_New [] h2 fun r3 h4 => asP r3 fun p5 => newK h4 (.row [AS.map (some g1), AS.ptr p5]) fun g6 h7 => K (AV.s (AS.ptr (.at g6 0))) h7
theorem E_table_New (lf : Nat) (cl : Cl) : PK.Eq [] (evFn PG cl noL noR noJ lf Tryz.f25) (B_table_New lf cl) := by intro  H K; kernel_rfl
theorem O_table_New (lf : Nat) (w0 : World) : OkB PG w0 i_table_New (PK.run [] (B_table_New lf)) := okb mix (fn := Tryz.f25) rfl (E_table_New lf)

/-- (*vedette/table.Table).Put -/
def B_table_Table_Put (lf : Nat) (cl : Cl) (q0 : AP) (q1 : List AS) (H : AH) (K : AV → AH → Bool) : Bool :=
  newK H (.row q1) fun g1 h2 => nilK q0 fun g3 o4 => fN (Nat.add o4 0) fun o5 => getK h2 g3 fun k6 => rowK h2 g3 fun cs7 => ldM cs7 o5 fun r8 => getK h2 g1 fun k9 => rowK h2 g1 fun cs10 => ldI cs10 0 .i64 fun n11 => asMp (AV.s (AS.map r8)) fun g13 => getK h2 g13 fun k12 => asMp (AV.s (AS.map r8)) fun g17 => mapK h2 g17 fun es14 => lkZ es14 n11 (AV.agg [AS.int .i64 (Int.ofNat 0), AS.int .i64 (Int.ofNat 0), AS.int .i64 (Int.ofNat 0), AS.int .i64 (Int.ofNat 0), AS.str [], AS.int .i64 (Int.ofNat 0), AS.str [], AS.int .i64 (Int.ofNat 0), AS.str [], AS.int .i64 (Int.ofNat 0), AS.str []]) fun v15 b16 => asG v15 fun cs18 => newK h2 (.row [AS.int .i64 (Int.ofNat 0), AS.int .i64 (Int.ofNat 0), AS.int .i64 (Int.ofNat 0), AS.int .i64 (Int.ofNat 0), AS.str [], AS.int .i64 (Int.ofNat 0), AS.str [], AS.int .i64 (Int.ofNat 0), AS.str [], AS.int .i64 (Int.ofNat 0), AS.str []]) fun g19 h20 => stoN h20 g19 0 11 cs18 fun h21 => joinX (fun (x28 : AP × AP × Bool) (h29 : AH) => pR x28 fun p31 r32 => pR r32 fun p33 r34 => ifA r34 (K (AV.s (AS.int .i64 (Int.ofNat 11))) h29) (nilK p31 fun g36 o37 => fN (Nat.add o37 0) fun o38 => rowK h29 g36 fun cs39 => ldM cs39 o38 fun r40 => asMp (AV.s (AS.map r40)) fun g42 => mapK h29 g42 fun es41 => fN (ln es41) fun o43 => fB (iLe (Int.ofNat 200) (Int.ofNat o43)) fun b44 => ifA b44 (K (AV.s (AS.int .i64 (Int.ofNat 16))) h29) (nilK p33 fun g45 o46 => rowK h29 g45 fun cs47 => ldG cs47 o46 11 fun cs48 => cl i_table_Table_Lay [AV.s (AS.ptr p31), AV.agg cs48] h29 fun r49 h50 => tup0 r49 (K (AV.s (AS.int .i64 (Int.ofNat 0))) h50)))) fun J30 => rowK h21 g1 fun cs22 => ldG cs22 0 11 fun cs23 => cl i_thing_Is [AV.agg cs23] h21 fun r24 h25 => arB r24 fun b26 => fB (!b26) fun b27 => ifA b27 (J30 (q0, (.at g1 0), true) h25) (J30 (q0, (.at g1 0), b16) h25)
def R_table_Table_Put : Nat → RegHint := fun id => match id with
  | 1 => ⟨(.op 0 (.op 1 (.op 2 (.op 3 (.op 4 (.op 5 (.op 6 (.op 7 (.op 8 (.op 9 (.op 10 (.op 11 (.op 12 .nil))))))))))))), 1024, 104, 10, 0⟩
  | _ => ⟨.nil, 0, 0, 0, 0⟩
def J_table_Table_Put : Option Nat → Option LoopA := fun id => match id with
  | some 3 => some ⟨AP × AP × Bool, (.pair (EncA.ptr 0) (.pair (EncA.ptr 3) (EncA.bool 17)))⟩
  | _ => none
theorem E_table_Table_Put (lf : Nat) (cl : Cl) : PK.Eq [.ptr, .agg] (evFn PG cl noL R_table_Table_Put J_table_Table_Put lf Tryz.f27) (B_table_Table_Put lf cl) := by intro q0 q1 H K; kernel_rfl
theorem O_table_Table_Put (lf : Nat) (w0 : World) : OkB PG w0 i_table_Table_Put (PK.run [.ptr, .agg] (B_table_Table_Put lf)) := okb mix (fn := Tryz.f27) rfl (E_table_Table_Put lf)

/-- (*vedette/table.Table).of -/
def B_table_Table_of (lf : Nat) (cl : Cl) (q0 : AP) (q1p : AP) (q1n : Nat) (q1c : ACap) (q1z : Nat) (H : AH) (K : AV → AH → Bool) : Bool :=
  (loopX lf (fun (self3 : (AP × (AP × Nat × ACap × Nat) × (AP × Nat × ACap × Nat) × Int × Int) → AH → Bool) (x1 : AP × (AP × Nat × ACap × Nat) × (AP × Nat × ACap × Nat) × Int × Int) (h2 : AH) => pR x1 fun p4 r5 => pR r5 fun u6 r6 => pR u6 fun p6 r6a => pR r6a fun l6 r6b => pR r6b fun c6 z6 => pR r6 fun u7 r7 => pR u7 fun p7 r7a => pR r7a fun l7 r7b => pR r7b fun c7 z7 => pR r7 fun n8 r9 => fB (iLt r9 n8) fun b11 => ifA b11 (nilK p7 fun g12 o13 => idxK r9 l7 fun m14 => fN (Nat.add o13 (Nat.mul m14 1)) fun o15 => rowK h2 g12 fun cs16 => ldI cs16 o15 .i64 fun n17 => nilK p4 fun g18 o19 => fN (Nat.add o19 0) fun o20 => rowK h2 g18 fun cs21 => ldM cs21 o20 fun r22 => asMp (AV.s (AS.map r22)) fun g26 => mapK h2 g26 fun es23 => lkZ es23 n17 (AV.agg [AS.int .i64 (Int.ofNat 0), AS.int .i64 (Int.ofNat 0), AS.int .i64 (Int.ofNat 0), AS.int .i64 (Int.ofNat 0), AS.str [], AS.int .i64 (Int.ofNat 0), AS.str [], AS.int .i64 (Int.ofNat 0), AS.str [], AS.int .i64 (Int.ofNat 0), AS.str []]) fun v24 b25 => asG v24 fun cs27 => okK (Nat.beq (ln cs27) 11) (fL (ap (α := AS) cs27 []) fun cs28 => okK (Nat.beq (ln cs28) (1 * 11)) (newK h2 (.row cs28) fun g29 h30 => elK h30 (.at g29 0) 1 11 fun ys31 => appA h30 p6 l6 z6 11 120 ys31 1 c6 fun p33 l33 c33 z33 h32 => w64 (iAdd r9 (Int.ofNat 1)) fun n34 => self3 (p4, (p33, l33, c33, z33), (p7, l7, c7, z7), n8, n34) h32))) (K (AV.s (AS.slice p6 l6 c6 z6)) h2)) (q0, (AP.nil, 0, (.lit 0), 1), (q1p, q1n, q1c, q1z), (Int.ofNat q1n), (Int.ofNat 0)) H)
def L_table_Table_of : Nat → LoopA := fun id => match id with
  | 3 => ⟨AP × (AP × Nat × ACap × Nat) × (AP × Nat × ACap × Nat) × Int × Int, (.pair (EncA.ptr 0) (.pair (EncA.slice 5) (.pair (EncA.slice 8) (.pair (EncA.int .i64 9) (EncA.int .i64 10)))))⟩
  | _ => noA
theorem E_table_Table_of (lf : Nat) (cl : Cl) : PK.Eq [.ptr, .slice] (evFn PG cl L_table_Table_of noR noJ lf Tryz.f28) (B_table_Table_of lf cl) := by intro q0 q1p q1n q1c q1z H K; kernel_rfl
theorem O_table_Table_of (lf : Nat) (w0 : World) : OkB PG w0 i_table_Table_of (PK.run [.ptr, .slice] (B_table_Table_of lf)) := okb mix (fn := Tryz.f28) rfl (E_table_Table_of lf)

/-- (*vedette/table.Table).Get -/
def B_table_Table_Get (lf : Nat) (cl : Cl) (q0 : AP) (q1 : Int) (H : AH) (K : AV → AH → Bool) : Bool :=
  newK H (.row [AS.int .i64 (Int.ofNat 0), AS.int .i64 (Int.ofNat 0), AS.int .i64 (Int.ofNat 0), AS.int .i64 (Int.ofNat 0), AS.str [], AS.int .i64 (Int.ofNat 0), AS.str [], AS.int .i64 (Int.ofNat 0), AS.str [], AS.int .i64 (Int.ofNat 0), AS.str []]) fun g1 h2 => nilK q0 fun g3 o4 => fN (Nat.add o4 0) fun o5 => rowK h2 g3 fun cs6 => ldM cs6 o5 fun r7 => asMp (AV.s (AS.map r7)) fun g11 => mapK h2 g11 fun es8 => lkZ es8 q1 (AV.agg [AS.int .i64 (Int.ofNat 0), AS.int .i64 (Int.ofNat 0), AS.int .i64 (Int.ofNat 0), AS.int .i64 (Int.ofNat 0), AS.str [], AS.int .i64 (Int.ofNat 0), AS.str [], AS.int .i64 (Int.ofNat 0), AS.str [], AS.int .i64 (Int.ofNat 0), AS.str []]) fun v9 b10 => asG v9 fun cs12 => newK h2 (.row [AS.int .i64 (Int.ofNat 0), AS.int .i64 (Int.ofNat 0), AS.int .i64 (Int.ofNat 0), AS.int .i64 (Int.ofNat 0), AS.str [], AS.int .i64 (Int.ofNat 0), AS.str [], AS.int .i64 (Int.ofNat 0), AS.str [], AS.int .i64 (Int.ofNat 0), AS.str []]) fun g13 h14 => stoN h14 g13 0 11 cs12 fun h15 => rowK h15 g13 fun cs16 => ldG cs16 0 11 fun cs17 => stoN h15 g1 0 11 cs17 fun h18 => rowK h18 g1 fun cs19 => ldG cs19 0 11 fun cs20 => K (AV.tup [AV.agg cs20, AV.s (AS.bool b10)]) h18
theorem E_table_Table_Get (lf : Nat) (cl : Cl) : PK.Eq [.ptr, .int .i64] (evFn PG cl noL noR noJ lf Tryz.f32) (B_table_Table_Get lf cl) := by intro q0 q1 H K; kernel_rfl
theorem O_table_Table_Get (lf : Nat) (w0 : World) : OkB PG w0 i_table_Table_Get (PK.run [.ptr, .int .i64] (B_table_Table_Get lf)) := okb mix (fn := Tryz.f32) rfl (E_table_Table_Get lf)

/-- (*vedette/table.Table).Len -/
def B_table_Table_Len (lf : Nat) (cl : Cl) (q0 : AP) (H : AH) (K : AV → AH → Bool) : Bool :=
  nilK q0 fun g1 o2 => fN (Nat.add o2 0) fun o3 => rowK H g1 fun cs4 => ldM cs4 o3 fun r5 => asMp (AV.s (AS.map r5)) fun g7 => mapK H g7 fun es6 => fN (ln es6) fun o8 => K (AV.s (AS.int .i64 (Int.ofNat o8))) H
theorem E_table_Table_Len (lf : Nat) (cl : Cl) : PK.Eq [.ptr] (evFn PG cl noL noR noJ lf Tryz.f34) (B_table_Table_Len lf cl) := by intro q0 H K; kernel_rfl
theorem O_table_Table_Len (lf : Nat) (w0 : World) : OkB PG w0 i_table_Table_Len (PK.run [.ptr] (B_table_Table_Len lf)) := okb mix (fn := Tryz.f34) rfl (E_table_Table_Len lf)

/-- (*vedette/table.Table).Copy -/
def B_table_Table_Copy (lf : Nat) (cl : Cl) (q0 : AP) (H : AH) (K : AV → AH → Bool) : Bool :=
  nilK q0 fun g1 o2 => fN (Nat.add o2 0) fun o3 => rowK H g1 fun cs4 => ldM cs4 o3 fun r5 => nilK q0 fun g6 o7 => fN (Nat.add o7 1) fun o8 => getK H g6 fun k9 => rowK H g6 fun cs10 => ldP cs10 o8 fun p11 => cl i_maps_Clone_int_Thing [AV.s (AS.map r5)] H fun r12 h13 => okK (kSame ((g6, k9) :: []) h13) (arM r12 fun r14 => cl i_quad_Tree_Copy [AV.s (AS.ptr p11)] h13 fun r15 h16 => asP r15 fun p17 => newK h16 (.row [AS.map r14, AS.ptr p17]) fun g18 h19 => K (AV.s (AS.ptr (.at g18 0))) h19)
def R_table_Table_Copy : Nat → RegHint := fun id => match id with
  | 1 => ⟨(.op 0 (.op 1 (.op 2 (.op 3 (.op 5 (.op 6 (.op 7 (.op 8 (.op 4 (.op 9 (.op 10 (.op 11 (.op 12 .nil))))))))))))), 16, 256, 8, 0⟩
  | _ => ⟨.nil, 0, 0, 0, 0⟩
theorem E_table_Table_Copy (lf : Nat) (cl : Cl) : PK.Eq [.ptr] (evFn PG cl noL R_table_Table_Copy noJ lf Tryz.f43) (B_table_Table_Copy lf cl) := by intro q0 H K; kernel_rfl
theorem O_table_Table_Copy (lf : Nat) (w0 : World) : OkB PG w0 i_table_Table_Copy (PK.run [.ptr] (B_table_Table_Copy lf)) := okb mix (fn := Tryz.f43) rfl (E_table_Table_Copy lf)

/-- (*vedette/table.Table).In -/
def B_table_Table_In (lf : Nat) (cl : Cl) (q0 : AP) (q1 : List AS) (H : AH) (K : AV → AH → Bool) : Bool :=
  newK H (.row q1) fun g1 h2 => nilK q0 fun g3 o4 => fN (Nat.add o4 1) fun o5 => rowK h2 g3 fun cs6 => ldP cs6 o5 fun p7 => rowK h2 g1 fun cs8 => ldG cs8 0 4 fun cs9 => cl i_quad_Tree_In [AV.s (AS.ptr p7), AV.agg cs9] h2 fun r10 h11 => asSl r10 fun p12 l12 c12 z12 => cl i_table_Table_of [AV.s (AS.ptr q0), AV.s (AS.slice p12 l12 c12 z12)] h11 fun r13 h14 => asSl r13 fun p15 l15 c15 z15 => K (AV.s (AS.slice p15 l15 c15 z15)) h14
def R_table_Table_In : Nat → RegHint := fun id => match id with
  | 1 => ⟨(.op 0 (.op 1 (.op 2 (.op 3 (.op 4 (.op 5 (.op 6 (.op 7 (.op 8 .nil))))))))), 0, 0, 6, 0⟩
  | _ => ⟨.nil, 0, 0, 0, 0⟩
theorem E_table_Table_In (lf : Nat) (cl : Cl) : PK.Eq [.ptr, .agg] (evFn PG cl noL R_table_Table_In noJ lf Tryz.f44) (B_table_Table_In lf cl) := by intro q0 q1 H K; kernel_rfl
theorem O_table_Table_In (lf : Nat) (w0 : World) : OkB PG w0 i_table_Table_In (PK.run [.ptr, .agg] (B_table_Table_In lf)) := okb mix (fn := Tryz.f44) rfl (E_table_Table_In lf)

/-- (*vedette/table.Table).Lay -/
def B_table_Table_Lay (lf : Nat) (cl : Cl) (q0 : AP) (q1 : List AS) (H : AH) (K : AV → AH → Bool) : Bool :=
  newK H (.row q1) fun g1 h2 => joinX (fun (x32 : AP × AP) (h33 : AH) => pR x32 fun p35 r36 => nilK p35 fun g38 o39 => fN (Nat.add o39 0) fun o40 => rowK h33 g38 fun cs41 => ldM cs41 o40 fun r42 => nilK r36 fun g43 o44 => fN (Nat.add o44 0) fun o45 => rowK h33 g43 fun cs46 => ldI cs46 o45 .i64 fun n47 => nilK r36 fun g48 o49 => rowK h33 g48 fun cs50 => ldG cs50 o49 11 fun cs51 => asMp (AV.s (AS.map r42)) fun g55 => mapK h33 g55 fun es52 => fL (setA es52 n47 (AV.agg cs51)) fun es53 => wrK h33 g55 (some (.imap es53)) fun h54 => nilK p35 fun g56 o57 => fN (Nat.add o57 1) fun o58 => rowK h54 g56 fun cs59 => ldP cs59 o58 fun p60 => nilK r36 fun g61 o62 => fN (Nat.add o62 0) fun o63 => rowK h54 g61 fun cs64 => ldI cs64 o63 .i64 fun n65 => nilK r36 fun g66 o67 => fN (Nat.add o67 1) fun o68 => rowK h54 g66 fun cs69 => ldG cs69 o68 2 fun cs70 => cl i_quad_Tree_Lay [AV.s (AS.ptr p60), AV.s (AS.int .i64 n65), AV.agg cs70] h54 fun r71 h72 => tup0 r71 (K (AV.tup []) h72)) fun J34 => nilK q0 fun g3 o4 => fN (Nat.add o4 0) fun o5 => getK h2 g3 fun k6 => rowK h2 g3 fun cs7 => ldM cs7 o5 fun r8 => getK h2 g1 fun k9 => rowK h2 g1 fun cs10 => ldI cs10 0 .i64 fun n11 => asMp (AV.s (AS.map r8)) fun g13 => getK h2 g13 fun k12 => asMp (AV.s (AS.map r8)) fun g17 => mapK h2 g17 fun es14 => lkZ es14 n11 (AV.agg [AS.int .i64 (Int.ofNat 0), AS.int .i64 (Int.ofNat 0), AS.int .i64 (Int.ofNat 0), AS.int .i64 (Int.ofNat 0), AS.str [], AS.int .i64 (Int.ofNat 0), AS.str [], AS.int .i64 (Int.ofNat 0), AS.str [], AS.int .i64 (Int.ofNat 0), AS.str []]) fun v15 b16 => asG v15 fun cs18 => newK h2 (.row [AS.int .i64 (Int.ofNat 0), AS.int .i64 (Int.ofNat 0), AS.int .i64 (Int.ofNat 0), AS.int .i64 (Int.ofNat 0), AS.str [], AS.int .i64 (Int.ofNat 0), AS.str [], AS.int .i64 (Int.ofNat 0), AS.str [], AS.int .i64 (Int.ofNat 0), AS.str []]) fun g19 h20 => stoN h20 g19 0 11 cs18 fun h21 => ifA b16 (nilK q0 fun g22 o23 => fN (Nat.add o23 1) fun o24 => rowK h21 g22 fun cs25 => ldP cs25 o24 fun p26 => rowK h21 g1 fun cs27 => ldI cs27 0 .i64 fun n28 => cl i_quad_Tree_Drop [AV.s (AS.ptr p26), AV.s (AS.int .i64 n28)] h21 fun r29 h30 => arI r29 .i64 fun n31 => J34 (q0, (.at g1 0)) h30) (J34 (q0, (.at g1 0)) h21)
def R_table_Table_Lay : Nat → RegHint := fun id => match id with
  | 1 => ⟨(.op 0 (.op 1 (.op 2 (.op 3 (.op 4 (.op 5 (.op 6 (.op 7 (.op 8 (.op 9 (.op 10 (.op 11 (.op 12 .nil))))))))))))), 1024, 104, 10, 0⟩
  | 3 => ⟨(.op 0 (.op 1 (.op 2 (.op 3 (.op 4 (.op 5 (.op 6 .nil))))))), 0, 0, 6, 0⟩
  | 4 => ⟨(.op 0 (.op 1 (.op 2 (.op 3 (.op 4 (.op 5 (.op 6 (.op 7 .nil)))))))), 0, 0, 7, 0⟩
  | 5 => ⟨(.op 0 (.op 1 (.op 2 (.op 3 (.op 4 (.op 5 (.op 6 (.op 7 (.op 8 .nil))))))))), 0, 0, 8, 0⟩
  | _ => ⟨.nil, 0, 0, 0, 0⟩
def J_table_Table_Lay : Option Nat → Option LoopA := fun id => match id with
  | some 4 => some ⟨AP × AP, (.pair (EncA.ptr 0) (EncA.ptr 3))⟩
  | _ => none
theorem E_table_Table_Lay (lf : Nat) (cl : Cl) : PK.Eq [.ptr, .agg] (evFn PG cl noL R_table_Table_Lay J_table_Table_Lay lf Tryz.f49) (B_table_Table_Lay lf cl) := by intro q0 q1 H K; kernel_rfl
theorem O_table_Table_Lay (lf : Nat) (w0 : World) : OkB PG w0 i_table_Table_Lay (PK.run [.ptr, .agg] (B_table_Table_Lay lf)) := okb mix (fn := Tryz.f49) rfl (E_table_Table_Lay lf)

/-- (*vedette/table.Table).Cell -/
def B_table_Table_Cell (lf : Nat) (cl : Cl) (q0 : AP) (q1 : Int) (H : AH) (K : AV → AH → Bool) : Bool :=
  cl i_cells_Rect [AV.s (AS.int .i64 q1)] H fun r1 h2 => tup2 r1 fun x3 x4 => asG x3 fun cs5 => arB x4 fun b6 => newK h2 (.row [AS.int .i64 (Int.ofNat 0), AS.int .i64 (Int.ofNat 0), AS.int .i64 (Int.ofNat 0), AS.int .i64 (Int.ofNat 0)]) fun g7 h8 => stoN h8 g7 0 4 cs5 fun h9 => fB (!b6) fun b10 => ifA b10 (K (AV.s (AS.slice AP.nil 0 (.lit 0) 1)) h9) (rowK h9 g7 fun cs11 => ldG cs11 0 4 fun cs12 => cl i_table_Table_In [AV.s (AS.ptr q0), AV.agg cs12] h9 fun r13 h14 => asSl r13 fun p15 l15 c15 z15 => K (AV.s (AS.slice p15 l15 c15 z15)) h14)
theorem E_table_Table_Cell (lf : Nat) (cl : Cl) : PK.Eq [.ptr, .int .i64] (evFn PG cl noL noR noJ lf Tryz.f58) (B_table_Table_Cell lf cl) := by intro q0 q1 H K; kernel_rfl
theorem O_table_Table_Cell (lf : Nat) (w0 : World) : OkB PG w0 i_table_Table_Cell (PK.run [.ptr, .int .i64] (B_table_Table_Cell lf)) := okb mix (fn := Tryz.f58) rfl (E_table_Table_Cell lf)

/-- (*vedette/table.Table).Drop -/
def B_table_Table_Drop (lf : Nat) (cl : Cl) (q0 : AP) (q1 : Int) (H : AH) (K : AV → AH → Bool) : Bool :=
  nilK q0 fun g1 o2 => fN (Nat.add o2 0) fun o3 => rowK H g1 fun cs4 => ldM cs4 o3 fun r5 => asMp (AV.s (AS.map r5)) fun g9 => mapK H g9 fun es6 => lkZ es6 q1 (AV.agg [AS.int .i64 (Int.ofNat 0), AS.int .i64 (Int.ofNat 0), AS.int .i64 (Int.ofNat 0), AS.int .i64 (Int.ofNat 0), AS.str [], AS.int .i64 (Int.ofNat 0), AS.str [], AS.int .i64 (Int.ofNat 0), AS.str [], AS.int .i64 (Int.ofNat 0), AS.str []]) fun v7 b8 => asG v7 fun cs10 => newK H (.row [AS.int .i64 (Int.ofNat 0), AS.int .i64 (Int.ofNat 0), AS.int .i64 (Int.ofNat 0), AS.int .i64 (Int.ofNat 0), AS.str [], AS.int .i64 (Int.ofNat 0), AS.str [], AS.int .i64 (Int.ofNat 0), AS.str [], AS.int .i64 (Int.ofNat 0), AS.str []]) fun g11 h12 => stoN h12 g11 0 11 cs10 fun h13 => fB (!b8) fun b14 => ifA b14 (K (AV.s (AS.int .i64 (Int.ofNat 15))) h13) (nilK q0 fun g15 o16 => fN (Nat.add o16 0) fun o17 => rowK h13 g15 fun cs18 => ldM cs18 o17 fun r19 => asMp (AV.s (AS.map r19)) fun g23 => mapK h13 g23 fun es20 => fL (delA es20 q1) fun es21 => wrK h13 g23 (some (.imap es21)) fun h22 => nilK q0 fun g24 o25 => fN (Nat.add o25 1) fun o26 => rowK h22 g24 fun cs27 => ldP cs27 o26 fun p28 => cl i_quad_Tree_Drop [AV.s (AS.ptr p28), AV.s (AS.int .i64 q1)] h22 fun r29 h30 => arI r29 .i64 fun n31 => K (AV.s (AS.int .i64 (Int.ofNat 0))) h30)
theorem E_table_Table_Drop (lf : Nat) (cl : Cl) : PK.Eq [.ptr, .int .i64] (evFn PG cl noL noR noJ lf Tryz.f59) (B_table_Table_Drop lf cl) := by intro q0 q1 H K; kernel_rfl
theorem O_table_Table_Drop (lf : Nat) (w0 : World) : OkB PG w0 i_table_Table_Drop (PK.run [.ptr, .int .i64] (B_table_Table_Drop lf)) := okb mix (fn := Tryz.f59) rfl (E_table_Table_Drop lf)

end
end Go.Proofs
end
section
namespace Go.Proofs
open Go Go.Vw Go.Vw.Ev
set_option maxRecDepth 100000
set_option maxHeartbeats 4000000
set_option linter.unusedVariables false
noncomputable section
/-- vedette/cmd.Is -/
def B_cmd_Is (lf : Nat) (cl : Cl) (q0 : List AS) (H : AH) (K : AV → AH → Bool) : Bool :=
  newK H (.row q0) fun g1 h2 => rowK h2 g1 fun cs3 => ldG cs3 6 8 fun cs4 => (loopX lf (fun (self7 : (AP × List AS × Int) → AH → Bool) (x5 : AP × List AS × Int) (h6 : AH) => pR x5 fun p8 r9 => pR r9 fun cs10 r11 => fB (iLt r11 (Int.ofNat 4)) fun b13 => ifA b13 (idxK r11 4 fun m14 => fN (Nat.mul m14 2) fun o15 => ldG cs10 o15 2 fun cs16 => newK h6 (.row [AS.int .i64 (Int.ofNat 0), AS.str []]) fun g17 h18 => stoN h18 g17 0 2 cs16 fun h19 => rowK h19 g17 fun cs20 => ldG cs20 0 2 fun cs21 => cl i_fields_IsField [AV.agg cs21] h19 fun r22 h23 => arB r22 fun b24 => fB (!b24) fun b25 => ifA b25 (K (AV.s (AS.bool false)) h23) (w64 (iAdd r11 (Int.ofNat 1)) fun n26 => self7 (p8, cs10, n26) h23)) (joinX (fun (x56 : AP × Bool) (h57 : AH) => pR x56 fun p59 r60 => joinX (fun (x86 : AP × Bool × Bool) (h87 : AH) => pR x86 fun p89 r90 => pR r90 fun b91 r92 => joinX (fun (x138 : AP × Bool × Bool × Bool) (h139 : AH) => pR x138 fun p141 r142 => pR r142 fun b143 r144 => pR r144 fun b145 r146 => ifA b143 (ifA b145 (ifA r146 (nilK p141 fun g148 o149 => fN (Nat.add o149 4) fun o150 => fN (Nat.add o150 0) fun o151 => rowK h139 g148 fun cs152 => ldI cs152 o151 .i64 fun n153 => nilK p141 fun g154 o155 => fN (Nat.add o155 4) fun o156 => fN (Nat.add o156 1) fun o157 => rowK h139 g154 fun cs158 => ldI cs158 o157 .i64 fun n159 => nilK p141 fun g160 o161 => fN (Nat.add o161 18) fun o162 => fN (Nat.add o162 0) fun o163 => rowK h139 g160 fun cs164 => ldI cs164 o163 .i64 fun n165 => nilK p141 fun g166 o167 => fN (Nat.add o167 18) fun o168 => fN (Nat.add o168 1) fun o169 => rowK h139 g166 fun cs170 => ldI cs170 o169 .i64 fun n171 => nilK p141 fun g172 o173 => fN (Nat.add o173 18) fun o174 => fN (Nat.add o174 2) fun o175 => rowK h139 g172 fun cs176 => ldI cs176 o175 .i64 fun n177 => nilK p141 fun g178 o179 => fN (Nat.add o179 18) fun o180 => fN (Nat.add o180 3) fun o181 => rowK h139 g178 fun cs182 => ldI cs182 o181 .i64 fun n183 => newK h139 (.row [AS.int .i64 n153, AS.int .i64 n159, AS.int .i64 n165, AS.int .i64 n171, AS.int .i64 n177, AS.int .i64 n183]) fun g184 h185 => cl i_cmd_near [AV.s (AS.slice (.at g184 0) 6 (.lit 6) 1)] h185 fun r186 h187 => arB r186 fun b188 => K (AV.s (AS.bool b188)) h187) (K (AV.s (AS.bool false)) h139)) (K (AV.s (AS.bool false)) h139)) (K (AV.s (AS.bool false)) h139)) fun J140 => nilK p89 fun g94 o95 => fN (Nat.add o95 1) fun o96 => rowK h87 g94 fun cs97 => ldI cs97 o96 .i64 fun n98 => fB (iLe (Int.ofNat 0) n98) fun b99 => ifA b99 (nilK p89 fun g100 o101 => fN (Nat.add o101 1) fun o102 => rowK h87 g100 fun cs103 => ldI cs103 o102 .i64 fun n104 => fB (iLe n104 (Int.ofNat 1000000)) fun b105 => ifA b105 (nilK p89 fun g106 o107 => fN (Nat.add o107 2) fun o108 => rowK h87 g106 fun cs109 => ldI cs109 o108 .i64 fun n110 => fB (iLe (Int.negSucc 0) n110) fun b111 => ifA b111 (nilK p89 fun g112 o113 => fN (Nat.add o113 2) fun o114 => rowK h87 g112 fun cs115 => ldI cs115 o114 .i64 fun n116 => fB (iLe n116 (Int.ofNat 100)) fun b117 => ifA b117 (nilK p89 fun g118 o119 => fN (Nat.add o119 3) fun o120 => rowK h87 g118 fun cs121 => ldI cs121 o120 .i64 fun n122 => fB (iLe (Int.negSucc 0) n122) fun b123 => ifA b123 (nilK p89 fun g124 o125 => fN (Nat.add o125 3) fun o126 => rowK h87 g124 fun cs127 => ldI cs127 o126 .i64 fun n128 => fB (iLe n128 (Int.ofNat 100)) fun b129 => ifA b129 (nilK p89 fun g130 o131 => fN (Nat.add o131 14) fun o132 => rowK h87 g130 fun cs133 => ldG cs133 o132 2 fun cs134 => cl i_fields_IsField [AV.agg cs134] h87 fun r135 h136 => arB r135 fun b137 => J140 (p89, b91, r92, b137) h136) (J140 (p89, b91, r92, false) h87)) (J140 (p89, b91, r92, false) h87)) (J140 (p89, b91, r92, false) h87)) (J140 (p89, b91, r92, false) h87)) (J140 (p89, b91, r92, false) h87)) (J140 (p89, b91, r92, false) h87)) fun J88 => nilK p59 fun g62 o63 => fN (Nat.add o63 16) fun o64 => rowK h57 g62 fun cs65 => ldI cs65 o64 .i64 fun n66 => fB (iLe (Int.ofNat 0) n66) fun b67 => ifA b67 (nilK p59 fun g68 o69 => fN (Nat.add o69 16) fun o70 => rowK h57 g68 fun cs71 => ldI cs71 o70 .i64 fun n72 => fB (iLt n72 (Int.ofNat 4)) fun b73 => ifA b73 (nilK p59 fun g74 o75 => fN (Nat.add o75 17) fun o76 => rowK h57 g74 fun cs77 => ldI cs77 o76 .i64 fun n78 => fB (iLe (Int.ofNat 0) n78) fun b79 => ifA b79 (nilK p59 fun g80 o81 => fN (Nat.add o81 17) fun o82 => rowK h57 g80 fun cs83 => ldI cs83 o82 .i64 fun n84 => fB (iLe n84 (Int.ofNat 1000000)) fun b85 => J88 (p59, r60, b85) h57) (J88 (p59, r60, false) h57)) (J88 (p59, r60, false) h57)) (J88 (p59, r60, false) h57)) fun J58 => nilK p8 fun g27 o28 => fN (Nat.add o28 0) fun o29 => rowK h6 g27 fun cs30 => ldI cs30 o29 .i64 fun n31 => fB (iLe (Int.ofNat 1) n31) fun b32 => ifA b32 (nilK p8 fun g33 o34 => fN (Nat.add o34 0) fun o35 => rowK h6 g33 fun cs36 => ldI cs36 o35 .i64 fun n37 => fB (iLe n37 (Int.ofNat 8)) fun b38 => ifA b38 (nilK p8 fun g40 o41 => getK h6 g40 fun k39 => nilK p8 fun g42 o43 => rowK h6 g42 fun cs44 => ldG cs44 o43 22 fun cs45 => nilK p8 fun g46 o47 => rowK h6 g46 fun cs48 => ldG cs48 o47 22 fun cs49 => cl i_cmd_core [AV.agg cs49] h6 fun r50 h51 => okK (kSame ((g40, k39) :: []) h51) (asG r50 fun cs52 => okK (leavesA [Leaf.int .i64, Leaf.int .i64, Leaf.int .i64, Leaf.int .i64, Leaf.int .i64, Leaf.int .i64, Leaf.int .i64, Leaf.str, Leaf.int .i64, Leaf.str, Leaf.int .i64, Leaf.str, Leaf.int .i64, Leaf.str, Leaf.int .i64, Leaf.str, Leaf.int .i64, Leaf.int .i64, Leaf.int .i64, Leaf.int .i64, Leaf.int .i64, Leaf.int .i64] cs45 && leavesA [Leaf.int .i64, Leaf.int .i64, Leaf.int .i64, Leaf.int .i64, Leaf.int .i64, Leaf.int .i64, Leaf.int .i64, Leaf.str, Leaf.int .i64, Leaf.str, Leaf.int .i64, Leaf.str, Leaf.int .i64, Leaf.str, Leaf.int .i64, Leaf.str, Leaf.int .i64, Leaf.int .i64, Leaf.int .i64, Leaf.int .i64, Leaf.int .i64, Leaf.int .i64] cs52) (fB (cellsEqA cs45 cs52) fun b53 => J58 (p8, b53) h51))) (J58 (p8, false) h6)) (J58 (p8, false) h6))) ((.at g1 0), cs4, (Int.ofNat 0)) h2)
def L_cmd_Is : Nat → LoopA := fun id => match id with
  | 2 => ⟨AP × List AS × Int, (.pair (EncA.ptr 1) (.pair (EncA.agg 9) (EncA.int .i64 10)))⟩
  | _ => noA
def R_cmd_Is : Nat → RegHint := fun id => match id with
  | 7 => ⟨(.op 0 (.op 1 (.op 2 (.op 3 (.op 4 (.op 5 (.op 6 (.op 7 (.op 8 (.op 9 (.op 10 (.op 11 (.op 12 (.op 13 (.op 14 .nil))))))))))))))), 2048, 512, 11, 0⟩
  | _ => ⟨.nil, 0, 0, 0, 0⟩
def J_cmd_Is : Option Nat → Option LoopA := fun id => match id with
  | some 8 => some ⟨AP × Bool, (.pair (EncA.ptr 1) (EncA.bool 5))⟩
  | some 9 => some ⟨AP × Bool × Bool, (.pair (EncA.ptr 1) (.pair (EncA.bool 5) (EncA.bool 6)))⟩
  | some 10 => some ⟨AP × Bool × Bool × Bool, (.pair (EncA.ptr 1) (.pair (EncA.bool 5) (.pair (EncA.bool 6) (EncA.bool 7))))⟩
  | _ => none
theorem E_cmd_Is (lf : Nat) (cl : Cl) : PK.Eq [.agg] (evFn PG cl L_cmd_Is R_cmd_Is J_cmd_Is lf Tryz.f31) (B_cmd_Is lf cl) := by intro q0 H K; kernel_rfl
theorem O_cmd_Is (lf : Nat) (w0 : World) : OkB PG w0 i_cmd_Is (PK.run [.agg] (B_cmd_Is lf)) := okb mix (fn := Tryz.f31) rfl (E_cmd_Is lf)

/-- vedette/cmd.core -/
def B_cmd_core (lf : Nat) (cl : Cl) (q0 : List AS) (H : AH) (K : AV → AH → Bool) : Bool :=
  newK H (.row q0) fun g1 h2 => newK h2 (.row [AS.int .i64 (Int.ofNat 0), AS.int .i64 (Int.ofNat 0), AS.int .i64 (Int.ofNat 0), AS.int .i64 (Int.ofNat 0), AS.int .i64 (Int.ofNat 0), AS.int .i64 (Int.ofNat 0), AS.int .i64 (Int.ofNat 0), AS.str [], AS.int .i64 (Int.ofNat 0), AS.str [], AS.int .i64 (Int.ofNat 0), AS.str [], AS.int .i64 (Int.ofNat 0), AS.str [], AS.int .i64 (Int.ofNat 0), AS.str [], AS.int .i64 (Int.ofNat 0), AS.int .i64 (Int.ofNat 0), AS.int .i64 (Int.ofNat 0), AS.int .i64 (Int.ofNat 0), AS.int .i64 (Int.ofNat 0), AS.int .i64 (Int.ofNat 0)]) fun g3 h4 => rowK h4 g1 fun cs5 => ldI cs5 0 .i64 fun n6 => rowK h4 g1 fun cs7 => ldI cs7 16 .i64 fun n8 => rowK h4 g1 fun cs9 => ldI cs9 17 .i64 fun n10 => newK h4 (.row [AS.int .i64 (Int.ofNat 0), AS.int .i64 (Int.ofNat 0), AS.int .i64 (Int.ofNat 0), AS.int .i64 (Int.ofNat 0), AS.int .i64 (Int.ofNat 0), AS.int .i64 (Int.ofNat 0), AS.int .i64 (Int.ofNat 0), AS.str [], AS.int .i64 (Int.ofNat 0), AS.str [], AS.int .i64 (Int.ofNat 0), AS.str [], AS.int .i64 (Int.ofNat 0), AS.str [], AS.int .i64 (Int.ofNat 0), AS.str [], AS.int .i64 (Int.ofNat 0), AS.int .i64 (Int.ofNat 0), AS.int .i64 (Int.ofNat 0), AS.int .i64 (Int.ofNat 0), AS.int .i64 (Int.ofNat 0), AS.int .i64 (Int.ofNat 0)]) fun g11 h12 => stoN h12 g11 0 22 [AS.int .i64 n6, AS.int .i64 (Int.ofNat 0), AS.int .i64 (Int.ofNat 0), AS.int .i64 (Int.ofNat 0), AS.int .i64 (Int.ofNat 0), AS.int .i64 (Int.ofNat 0), AS.int .i64 (Int.ofNat 0), AS.str [], AS.int .i64 (Int.ofNat 0), AS.str [], AS.int .i64 (Int.ofNat 0), AS.str [], AS.int .i64 (Int.ofNat 0), AS.str [], AS.int .i64 (Int.ofNat 0), AS.str [], AS.int .i64 n8, AS.int .i64 n10, AS.int .i64 (Int.ofNat 0), AS.int .i64 (Int.ofNat 0), AS.int .i64 (Int.ofNat 0), AS.int .i64 (Int.ofNat 0)] fun h13 => rowK h13 g1 fun cs14 => ldI cs14 0 .i64 fun n15 => fB (iEq n15 (Int.ofNat 1)) fun b16 => ifA b16 (rowK h13 g1 fun cs17 => ldG cs17 4 2 fun cs18 => getK h13 g1 fun k19 => rowK h13 g1 fun cs20 => ldG cs20 6 8 fun cs21 => okK (!kHas ((g1, k19) :: []) g11 && kSame ((g1, k19) :: []) h13) (stoN h13 g11 4 2 cs18 fun h22 => stoN h22 g11 6 8 cs21 fun h23 => rowK h23 g11 fun cs77 => ldG cs77 0 22 fun cs78 => stoN h23 g3 0 22 cs78 fun h79 => rowK h79 g3 fun cs80 => ldG cs80 0 22 fun cs81 => K (AV.agg cs81) h79)) (fB (iEq n15 (Int.ofNat 2)) fun b24 => ifA b24 (rowK h13 g1 fun cs25 => ldI cs25 1 .i64 fun n26 => getK h13 g1 fun k27 => rowK h13 g1 fun cs28 => ldG cs28 4 2 fun cs29 => okK (!kHas ((g1, k27) :: []) g11 && kSame ((g1, k27) :: []) h13) (sto1 h13 g11 1 (AS.int .i64 n26) fun h30 => stoN h30 g11 4 2 cs29 fun h31 => rowK h31 g11 fun cs82 => ldG cs82 0 22 fun cs83 => stoN h31 g3 0 22 cs83 fun h84 => rowK h84 g3 fun cs85 => ldG cs85 0 22 fun cs86 => K (AV.agg cs86) h84)) (fB (iEq n15 (Int.ofNat 3)) fun b32 => ifA b32 (rowK h13 g1 fun cs33 => ldI cs33 1 .i64 fun n34 => getK h13 g1 fun k35 => rowK h13 g1 fun cs36 => ldI cs36 2 .i64 fun n37 => getK h13 g1 fun k38 => rowK h13 g1 fun cs39 => ldG cs39 14 2 fun cs40 => okK (!kHas ((g1, k38) :: ((g1, k35) :: [])) g11 && kSame ((g1, k38) :: ((g1, k35) :: [])) h13) (sto1 h13 g11 1 (AS.int .i64 n34) fun h41 => okK (!kHas ((g1, k38) :: ((g1, k35) :: [])) g11 && kSame ((g1, k38) :: ((g1, k35) :: [])) h41) (sto1 h41 g11 2 (AS.int .i64 n37) fun h42 => stoN h42 g11 14 2 cs40 fun h43 => rowK h43 g11 fun cs87 => ldG cs87 0 22 fun cs88 => stoN h43 g3 0 22 cs88 fun h89 => rowK h89 g3 fun cs90 => ldG cs90 0 22 fun cs91 => K (AV.agg cs91) h89))) (fB (iEq n15 (Int.ofNat 4)) fun b44 => ifA b44 (rowK h13 g1 fun cs45 => ldI cs45 1 .i64 fun n46 => sto1 h13 g11 1 (AS.int .i64 n46) fun h47 => rowK h47 g11 fun cs92 => ldG cs92 0 22 fun cs93 => stoN h47 g3 0 22 cs93 fun h94 => rowK h94 g3 fun cs95 => ldG cs95 0 22 fun cs96 => K (AV.agg cs96) h94) (fB (iEq n15 (Int.ofNat 5)) fun b48 => ifA b48 (rowK h13 g1 fun cs49 => ldI cs49 2 .i64 fun n50 => getK h13 g1 fun k51 => rowK h13 g1 fun cs52 => ldI cs52 3 .i64 fun n53 => okK (!kHas ((g1, k51) :: []) g11 && kSame ((g1, k51) :: []) h13) (sto1 h13 g11 2 (AS.int .i64 n50) fun h54 => sto1 h54 g11 3 (AS.int .i64 n53) fun h55 => rowK h55 g11 fun cs97 => ldG cs97 0 22 fun cs98 => stoN h55 g3 0 22 cs98 fun h99 => rowK h99 g3 fun cs100 => ldG cs100 0 22 fun cs101 => K (AV.agg cs101) h99)) (joinX (fun (x58 : AP × AP × AP × Bool) (h59 : AH) => pR x58 fun p61 r62 => pR r62 fun p63 r64 => pR r64 fun p65 r66 => ifA r66 (nilK p61 fun g68 o69 => fN (Nat.add o69 18) fun o70 => rowK h59 g68 fun cs71 => ldG cs71 o70 4 fun cs72 => nilK p65 fun g73 o74 => fN (Nat.add o74 18) fun o75 => stoN h59 g73 o75 4 cs72 fun h76 => nilK p65 fun g102 o103 => rowK h76 g102 fun cs104 => ldG cs104 o103 22 fun cs105 => nilK p63 fun g106 o107 => stoN h76 g106 o107 22 cs105 fun h108 => nilK p63 fun g110 o111 => rowK h108 g110 fun cs109 => ldG cs109 o111 22 fun cs112 => K (AV.agg cs112) h108) (nilK p65 fun g113 o114 => rowK h59 g113 fun cs115 => ldG cs115 o114 22 fun cs116 => nilK p63 fun g117 o118 => stoN h59 g117 o118 22 cs116 fun h119 => nilK p63 fun g121 o122 => rowK h119 g121 fun cs120 => ldG cs120 o122 22 fun cs123 => K (AV.agg cs123) h119)) fun J60 => fB (iEq n15 (Int.ofNat 6)) fun b56 => ifA b56 (J60 ((.at g1 0), (.at g3 0), (.at g11 0), b56) h13) (fB (iEq n15 (Int.ofNat 7)) fun b57 => J60 ((.at g1 0), (.at g3 0), (.at g11 0), b57) h13))))))
def R_cmd_core : Nat → RegHint := fun id => match id with
  | 4 => ⟨(.op 0 (.op 1 (.op 2 (.op 3 (.op 4 (.op 5 (.op 6 (.op 7 .nil)))))))), 32, 8, 5, 0⟩
  | 6 => ⟨(.op 0 (.op 1 (.op 2 (.op 3 (.op 4 (.op 5 (.op 6 (.op 7 .nil)))))))), 32, 8, 5, 0⟩
  | 8 => ⟨(.op 0 (.op 1 (.op 2 (.op 3 (.op 4 (.op 5 (.op 6 (.op 7 (.op 8 (.op 9 (.op 10 (.op 11 .nil)))))))))))), 640, 40, 7, 0⟩
  | 12 => ⟨(.op 0 (.op 1 (.op 2 (.op 3 (.op 4 (.op 5 (.op 6 (.op 7 .nil)))))))), 32, 8, 5, 0⟩
  | _ => ⟨.nil, 0, 0, 0, 0⟩
def J_cmd_core : Option Nat → Option LoopA := fun id => match id with
  | some 15 => some ⟨AP × AP × AP × Bool, (.pair (EncA.ptr 1) (.pair (EncA.ptr 2) (.pair (EncA.ptr 3) (EncA.bool 53))))⟩
  | _ => none
theorem E_cmd_core (lf : Nat) (cl : Cl) : PK.Eq [.agg] (evFn PG cl noL R_cmd_core J_cmd_core lf Tryz.f54) (B_cmd_core lf cl) := by intro q0 H K; kernel_rfl
theorem O_cmd_core (lf : Nat) (w0 : World) : OkB PG w0 i_cmd_core (PK.run [.agg] (B_cmd_core lf)) := okb mix (fn := Tryz.f54) rfl (E_cmd_core lf)

/-- vedette/cmd.near -/
def B_cmd_near (lf : Nat) (cl : Cl) (q0p : AP) (q0n : Nat) (q0c : ACap) (q0z : Nat) (H : AH) (K : AV → AH → Bool) : Bool :=
  (loopX lf (fun (self3 : ((AP × Nat × ACap × Nat) × Int × Int) → AH → Bool) (x1 : (AP × Nat × ACap × Nat) × Int × Int) (h2 : AH) => pR x1 fun u4 r4 => pR u4 fun p4 r4a => pR r4a fun l4 r4b => pR r4b fun c4 z4 => pR r4 fun n5 r6 => fB (iLt r6 n5) fun b8 => ifA b8 (nilK p4 fun g9 o10 => idxK r6 l4 fun m11 => fN (Nat.add o10 (Nat.mul m11 1)) fun o12 => rowK h2 g9 fun cs13 => ldI cs13 o12 .i64 fun n14 => fB (iLe (Int.negSucc 999) n14) fun b15 => ifA b15 (fB (iLe n14 (Int.ofNat 1000)) fun b16 => ifA b16 (w64 (iAdd r6 (Int.ofNat 1)) fun n17 => self3 ((p4, l4, c4, z4), n5, n17) h2) (K (AV.s (AS.bool false)) h2)) (K (AV.s (AS.bool false)) h2)) (K (AV.s (AS.bool true)) h2)) ((q0p, q0n, q0c, q0z), (Int.ofNat q0n), (Int.ofNat 0)) H)
def L_cmd_near : Nat → LoopA := fun id => match id with
  | 2 => ⟨(AP × Nat × ACap × Nat) × Int × Int, (.pair (EncA.slice 5) (.pair (EncA.int .i64 6) (EncA.int .i64 7)))⟩
  | _ => noA
theorem E_cmd_near (lf : Nat) (cl : Cl) : PK.Eq [.slice] (evFn PG cl L_cmd_near noR noJ lf Tryz.f55) (B_cmd_near lf cl) := by intro q0p q0n q0c q0z H K; kernel_rfl
theorem O_cmd_near (lf : Nat) (w0 : World) : OkB PG w0 i_cmd_near (PK.run [.slice] (B_cmd_near lf)) := okb mix (fn := Tryz.f55) rfl (E_cmd_near lf)

end
end Go.Proofs
end
section
namespace Go.Proofs
open Go Go.Vw Go.Vw.Ev
set_option maxRecDepth 100000
set_option maxHeartbeats 4000000
set_option linter.unusedVariables false
noncomputable section
/-- vedette/act.Check -/
def B_act_Check (lf : Nat) (cl : Cl) (q0 : AP) (q1 : List AS) (H : AH) (K : AV → AH → Bool) : Bool :=
  newK H (.row q1) fun g1 h2 => rowK h2 g1 fun cs3 => ldG cs3 0 22 fun cs4 => cl i_cmd_Is [AV.agg cs4] h2 fun r5 h6 => arB r5 fun b7 => fB (!b7) fun b8 => ifA b8 (K (AV.s (AS.int .i64 (Int.ofNat 11))) h6) (rowK h6 g1 fun cs9 => ldI cs9 0 .i64 fun n10 => fB (iLt (Int.ofNat 4) n10) fun b11 => ifA b11 (K (AV.s (AS.int .i64 (Int.ofNat 11))) h6) (rowK h6 g1 fun cs12 => ldI cs12 1 .i64 fun n13 => cl i_table_Table_Get [AV.s (AS.ptr q0), AV.s (AS.int .i64 n13)] h6 fun r14 h15 => tup2 r14 fun x16 x17 => asG x16 fun cs18 => arB x17 fun b19 => newK h15 (.row [AS.int .i64 (Int.ofNat 0), AS.int .i64 (Int.ofNat 0), AS.int .i64 (Int.ofNat 0), AS.int .i64 (Int.ofNat 0), AS.str [], AS.int .i64 (Int.ofNat 0), AS.str [], AS.int .i64 (Int.ofNat 0), AS.str [], AS.int .i64 (Int.ofNat 0), AS.str []]) fun g20 h21 => stoN h21 g20 0 11 cs18 fun h22 => rowK h22 g1 fun cs23 => ldG cs23 4 2 fun cs24 => cl i_cells_Of [AV.agg cs24] h22 fun r25 h26 => tup2 r25 fun x27 x28 => arI x27 .i64 fun n29 => arI x28 .i64 fun n30 => joinX (fun (x35 : AP × AP × AP × Bool × Int × Bool) (h36 : AH) => pR x35 fun p38 r39 => pR r39 fun p40 r41 => pR r41 fun p42 r43 => pR r43 fun b44 r45 => pR r45 fun n46 r47 => ifA r47 (K (AV.s (AS.int .i64 n46)) h36) (joinX (fun (x67 : AP × AP × AP × Bool × Int × Bool) (h68 : AH) => pR x67 fun p70 r71 => pR r71 fun p72 r73 => pR r73 fun p74 r75 => pR r75 fun b76 r77 => pR r77 fun n78 r79 => ifA r79 (K (AV.s (AS.int .i64 (Int.ofNat 16))) h68) (nilK p72 fun g81 o82 => fN (Nat.add o82 0) fun o83 => rowK h68 g81 fun cs84 => ldI cs84 o83 .i64 fun n85 => fB (iEq n85 (Int.ofNat 1)) fun b86 => ifA b86 (K (AV.s (AS.int .i64 (Int.ofNat 0))) h68) (fB (!b76) fun b87 => ifA b87 (K (AV.s (AS.int .i64 (Int.ofNat 15))) h68) (joinX (fun (x95 : AP × AP × AP × Int × Bool) (h96 : AH) => pR x95 fun p98 r99 => pR r99 fun p100 r101 => pR r101 fun p102 r103 => pR r103 fun n104 r105 => ifA r105 (K (AV.s (AS.int .i64 n104)) h96) (joinX (fun (x134 : AP × Bool) (h135 : AH) => pR x134 fun p137 r138 => ifA r138 (K (AV.s (AS.int .i64 (Int.ofNat 16))) h135) (nilK p137 fun g140 o141 => fN (Nat.add o141 0) fun o142 => rowK h135 g140 fun cs143 => ldI cs143 o142 .i64 fun n144 => fB (iEq n144 (Int.ofNat 3)) fun b145 => ifA b145 (nilK p137 fun g146 o147 => fN (Nat.add o147 2) fun o148 => rowK h135 g146 fun cs149 => ldI cs149 o148 .i64 fun n150 => fB (iLt n150 (Int.ofNat 0)) fun b151 => ifA b151 (K (AV.s (AS.int .i64 (Int.ofNat 18))) h135) (nilK p137 fun g152 o153 => fN (Nat.add o153 2) fun o154 => rowK h135 g152 fun cs155 => ldI cs155 o154 .i64 fun n156 => fB (iLe (Int.ofNat 4) n156) fun b157 => ifA b157 (K (AV.s (AS.int .i64 (Int.ofNat 18))) h135) (K (AV.s (AS.int .i64 (Int.ofNat 0))) h135))) (K (AV.s (AS.int .i64 (Int.ofNat 0))) h135))) fun J136 => nilK p100 fun g107 o108 => fN (Nat.add o108 0) fun o109 => rowK h96 g107 fun cs110 => ldI cs110 o109 .i64 fun n111 => fB (iEq n111 (Int.ofNat 2)) fun b112 => ifA b112 (nilK p102 fun g113 o114 => fN (Nat.add o114 1) fun o115 => rowK h96 g113 fun cs116 => ldG cs116 o115 2 fun cs117 => nilK p100 fun g118 o119 => fN (Nat.add o119 4) fun o120 => rowK h96 g118 fun cs121 => ldG cs121 o120 2 fun cs122 => cl i_act_away [AV.agg cs117, AV.agg cs122] h96 fun r123 h124 => arB r123 fun b125 => ifA b125 (nilK p100 fun g126 o127 => fN (Nat.add o127 4) fun o128 => rowK h124 g126 fun cs129 => ldG cs129 o128 2 fun cs130 => cl i_act_full [AV.s (AS.ptr p98), AV.agg cs130] h124 fun r131 h132 => arB r131 fun b133 => J136 (p100, b133) h132) (J136 (p100, false) h124)) (J136 (p100, false) h96))) fun J97 => nilK p72 fun g88 o89 => fN (Nat.add o89 0) fun o90 => rowK h68 g88 fun cs91 => ldI cs91 o90 .i64 fun n92 => fB (iEq n92 (Int.ofNat 2)) fun b93 => ifA b93 (fB (!iEq n78 (Int.ofNat 0)) fun b94 => J97 (p70, p72, p74, n78, b94) h68) (J97 (p70, p72, p74, n78, false) h68))))) fun J69 => nilK p40 fun g49 o50 => fN (Nat.add o50 0) fun o51 => rowK h36 g49 fun cs52 => ldI cs52 o51 .i64 fun n53 => fB (iEq n53 (Int.ofNat 1)) fun b54 => ifA b54 (cl i_table_Table_Len [AV.s (AS.ptr p38)] h36 fun r55 h56 => arI r55 .i64 fun n57 => fB (iLe (Int.ofNat 200) n57) fun b58 => ifA b58 (J69 (p38, p40, p42, b44, n46, true) h56) (nilK p40 fun g59 o60 => fN (Nat.add o60 4) fun o61 => rowK h56 g59 fun cs62 => ldG cs62 o61 2 fun cs63 => cl i_act_full [AV.s (AS.ptr p38), AV.agg cs63] h56 fun r64 h65 => arB r64 fun b66 => J69 (p38, p40, p42, b44, n46, b66) h65)) (J69 (p38, p40, p42, b44, n46, false) h36))) fun J37 => rowK h26 g1 fun cs31 => ldI cs31 0 .i64 fun n32 => fB (iEq n32 (Int.ofNat 1)) fun b33 => ifA b33 (fB (!iEq n30 (Int.ofNat 0)) fun b34 => J37 (q0, (.at g1 0), (.at g20 0), b19, n30, b34) h26) (J37 (q0, (.at g1 0), (.at g20 0), b19, n30, false) h26)))
def J_act_Check : Option Nat → Option LoopA := fun id => match id with
  | some 6 => some ⟨AP × AP × AP × Bool × Int × Bool, (.pair (EncA.ptr 0) (.pair (EncA.ptr 3) (.pair (EncA.ptr 5) (.pair (EncA.bool 6) (.pair (EncA.int .i64 8) (EncA.bool 30))))))⟩
  | some 8 => some ⟨AP × AP × AP × Bool × Int × Bool, (.pair (EncA.ptr 0) (.pair (EncA.ptr 3) (.pair (EncA.ptr 5) (.pair (EncA.bool 6) (.pair (EncA.int .i64 8) (EncA.bool 39))))))⟩
  | some 14 => some ⟨AP × AP × AP × Int × Bool, (.pair (EncA.ptr 0) (.pair (EncA.ptr 3) (.pair (EncA.ptr 5) (.pair (EncA.int .i64 8) (EncA.bool 61)))))⟩
  | some 16 => some ⟨AP × Bool, (.pair (EncA.ptr 3) (EncA.bool 70))⟩
  | _ => none
theorem E_act_Check (lf : Nat) (cl : Cl) : PK.Eq [.ptr, .agg] (evFn PG cl noL noR J_act_Check lf Tryz.f10) (B_act_Check lf cl) := by intro q0 q1 H K; kernel_rfl
theorem O_act_Check (lf : Nat) (w0 : World) : OkB PG w0 i_act_Check (PK.run [.ptr, .agg] (B_act_Check lf)) := okb mix (fn := Tryz.f10) rfl (E_act_Check lf)

/-- vedette/act.Do -/
def B_act_Do (lf : Nat) (cl : Cl) (q0 : AP) (q1 : List AS) (q2 : Int) (H : AH) (K : AV → AH → Bool) : Bool :=
  newK H (.row q1) fun g1 h2 => rowK h2 g1 fun cs3 => ldG cs3 0 22 fun cs4 => cl i_act_Check [AV.s (AS.ptr q0), AV.agg cs4] h2 fun r5 h6 => arI r5 .i64 fun n7 => fB (!iEq n7 (Int.ofNat 0)) fun b8 => ifA b8 (K (AV.tup [AV.s (AS.int .i64 (Int.ofNat 0)), AV.s (AS.int .i64 n7)]) h6) (rowK h6 g1 fun cs9 => ldG cs9 0 22 fun cs10 => cl i_act_Done [AV.s (AS.ptr q0), AV.agg cs10, AV.s (AS.int .i64 q2)] h6 fun r11 h12 => tup2 r11 fun x13 x14 => arI x13 .i64 fun n15 => arB x14 fun b16 => fB (!b16) fun b17 => ifA b17 (K (AV.tup [AV.s (AS.int .i64 (Int.ofNat 0)), AV.s (AS.int .i64 (Int.ofNat 11))]) h12) (K (AV.tup [AV.s (AS.int .i64 n15), AV.s (AS.int .i64 (Int.ofNat 0))]) h12))
theorem E_act_Do (lf : Nat) (cl : Cl) : PK.Eq [.ptr, .agg, .int .i64] (evFn PG cl noL noR noJ lf Tryz.f11) (B_act_Do lf cl) := by intro q0 q1 q2 H K; kernel_rfl
theorem O_act_Do (lf : Nat) (w0 : World) : OkB PG w0 i_act_Do (PK.run [.ptr, .agg, .int .i64] (B_act_Do lf)) := okb mix (fn := Tryz.f11) rfl (E_act_Do lf)

/-- vedette/act.full -/
def B_act_full (lf : Nat) (cl : Cl) (q0 : AP) (q1 : List AS) (H : AH) (K : AV → AH → Bool) : Bool :=
  newK H (.row q1) fun g1 h2 => rowK h2 g1 fun cs3 => ldG cs3 0 2 fun cs4 => cl i_cells_Of [AV.agg cs4] h2 fun r5 h6 => tup2 r5 fun x7 x8 => arI x7 .i64 fun n9 => arI x8 .i64 fun n10 => cl i_table_Table_Cell [AV.s (AS.ptr q0), AV.s (AS.int .i64 n9)] h6 fun r11 h12 => asSl r11 fun p13 l13 c13 z13 => fB (iLe (Int.ofNat 8) (Int.ofNat l13)) fun b14 => K (AV.s (AS.bool b14)) h12
theorem E_act_full (lf : Nat) (cl : Cl) : PK.Eq [.ptr, .agg] (evFn PG cl noL noR noJ lf Tryz.f35) (B_act_full lf cl) := by intro q0 q1 H K; kernel_rfl
theorem O_act_full (lf : Nat) (w0 : World) : OkB PG w0 i_act_full (PK.run [.ptr, .agg] (B_act_full lf)) := okb mix (fn := Tryz.f35) rfl (E_act_full lf)

/-- vedette/act.away -/
def B_act_away (lf : Nat) (cl : Cl) (q0 : List AS) (q1 : List AS) (H : AH) (K : AV → AH → Bool) : Bool :=
  newK H (.row q0) fun g1 h2 => newK h2 (.row q1) fun g3 h4 => rowK h4 g1 fun cs5 => ldG cs5 0 2 fun cs6 => cl i_cells_Of [AV.agg cs6] h4 fun r7 h8 => tup2 r7 fun x9 x10 => arI x9 .i64 fun n11 => arI x10 .i64 fun n12 => rowK h8 g3 fun cs13 => ldG cs13 0 2 fun cs14 => cl i_cells_Of [AV.agg cs14] h8 fun r15 h16 => tup2 r15 fun x17 x18 => arI x17 .i64 fun n19 => arI x18 .i64 fun n20 => fB (!iEq n11 n19) fun b21 => K (AV.s (AS.bool b21)) h16
theorem E_act_away (lf : Nat) (cl : Cl) : PK.Eq [.agg, .agg] (evFn PG cl noL noR noJ lf Tryz.f36) (B_act_away lf cl) := by intro q0 q1 H K; kernel_rfl
theorem O_act_away (lf : Nat) (w0 : World) : OkB PG w0 i_act_away (PK.run [.agg, .agg] (B_act_away lf)) := okb mix (fn := Tryz.f36) rfl (E_act_away lf)

/-- vedette/act.Done -/
def B_act_Done (lf : Nat) (cl : Cl) (q0 : AP) (q1 : List AS) (q2 : Int) (H : AH) (K : AV → AH → Bool) : Bool :=
  newK H (.row q1) fun g1 h2 => rowK h2 g1 fun cs3 => ldI cs3 1 .i64 fun n4 => cl i_table_Table_Get [AV.s (AS.ptr q0), AV.s (AS.int .i64 n4)] h2 fun r5 h6 => tup2 r5 fun x7 x8 => asG x7 fun cs9 => arB x8 fun b10 => newK h6 (.row [AS.int .i64 (Int.ofNat 0), AS.int .i64 (Int.ofNat 0), AS.int .i64 (Int.ofNat 0), AS.int .i64 (Int.ofNat 0), AS.str [], AS.int .i64 (Int.ofNat 0), AS.str [], AS.int .i64 (Int.ofNat 0), AS.str [], AS.int .i64 (Int.ofNat 0), AS.str []]) fun g11 h12 => stoN h12 g11 0 11 cs9 fun h13 => joinX (fun (x55 : AP × AP × AP × Bool) (h56 : AH) => pR x55 fun p58 r59 => pR r59 fun p60 r61 => pR r61 fun p62 r63 => nilK p62 fun g65 o66 => rowK h56 g65 fun cs67 => ldG cs67 o66 11 fun cs68 => cl i_table_Table_Lay [AV.s (AS.ptr p58), AV.agg cs68] h56 fun r69 h70 => tup0 r69 (nilK p60 fun g71 o72 => fN (Nat.add o72 1) fun o73 => rowK h70 g71 fun cs74 => ldI cs74 o73 .i64 fun n75 => K (AV.tup [AV.s (AS.int .i64 n75), AV.s (AS.bool r63)]) h70)) fun J57 => rowK h13 g1 fun cs14 => ldI cs14 0 .i64 fun n15 => fB (iEq n15 (Int.ofNat 1)) fun b16 => ifA b16 (cl i_table_Table_Get [AV.s (AS.ptr q0), AV.s (AS.int .i64 q2)] h13 fun r17 h18 => tup2 r17 fun x19 x20 => asG x19 fun cs21 => arB x20 fun b22 => newK h18 (.row [AS.int .i64 (Int.ofNat 0), AS.int .i64 (Int.ofNat 0), AS.int .i64 (Int.ofNat 0), AS.int .i64 (Int.ofNat 0), AS.str [], AS.int .i64 (Int.ofNat 0), AS.str [], AS.int .i64 (Int.ofNat 0), AS.str [], AS.int .i64 (Int.ofNat 0), AS.str []]) fun g23 h24 => stoN h24 g23 0 11 cs21 fun h25 => ifA b22 (K (AV.tup [AV.s (AS.int .i64 (Int.ofNat 0)), AV.s (AS.bool false)]) h25) (fB (iLt q2 (Int.ofNat 0)) fun b26 => ifA b26 (K (AV.tup [AV.s (AS.int .i64 (Int.ofNat 0)), AV.s (AS.bool false)]) h25) (fB (iLt (Int.ofNat 1000000) q2) fun b27 => ifA b27 (K (AV.tup [AV.s (AS.int .i64 (Int.ofNat 0)), AV.s (AS.bool false)]) h25) (rowK h25 g1 fun cs28 => ldG cs28 4 2 fun cs29 => rowK h25 g1 fun cs30 => ldG cs30 6 8 fun cs31 => okK (Nat.beq (ln cs29) 2) (okK (Nat.beq (ln cs31) 8) (fL ((AS.int .i64 q2) :: (ap (α := AS) cs29 (ap (α := AS) cs31 []))) fun cs32 => cl i_table_Table_Lay [AV.s (AS.ptr q0), AV.agg cs32] h25 fun r33 h34 => tup0 r33 (K (AV.tup [AV.s (AS.int .i64 q2), AV.s (AS.bool true)]) h34))))))) (fB (iEq n15 (Int.ofNat 2)) fun b35 => ifA b35 (rowK h13 g1 fun cs36 => ldG cs36 4 2 fun cs37 => stoN h13 g11 1 2 cs37 fun h38 => J57 (q0, (.at g1 0), (.at g11 0), b10) h38) (fB (iEq n15 (Int.ofNat 3)) fun b39 => ifA b39 (rowK h13 g1 fun cs40 => ldI cs40 2 .i64 fun n41 => rowK h13 g1 fun cs42 => ldG cs42 14 2 fun cs43 => idxK n41 4 fun m44 => fN (Nat.add 3 (Nat.mul m44 2)) fun o45 => stoN h13 g11 o45 2 cs43 fun h46 => J57 (q0, (.at g1 0), (.at g11 0), b10) h46) (fB (iEq n15 (Int.ofNat 4)) fun b47 => ifA b47 (rowK h13 g1 fun cs48 => ldI cs48 1 .i64 fun n49 => cl i_table_Table_Drop [AV.s (AS.ptr q0), AV.s (AS.int .i64 n49)] h13 fun r50 h51 => arI r50 .i64 fun n52 => rowK h51 g1 fun cs53 => ldI cs53 1 .i64 fun n54 => K (AV.tup [AV.s (AS.int .i64 n54), AV.s (AS.bool b10)]) h51) (J57 (q0, (.at g1 0), (.at g11 0), b10) h13))))
def J_act_Done : Option Nat → Option LoopA := fun id => match id with
  | some 16 => some ⟨AP × AP × AP × Bool, (.pair (EncA.ptr 0) (.pair (EncA.ptr 4) (.pair (EncA.ptr 8) (EncA.bool 9))))⟩
  | _ => none
theorem E_act_Done (lf : Nat) (cl : Cl) : PK.Eq [.ptr, .agg, .int .i64] (evFn PG cl noL noR J_act_Done lf Tryz.f37) (B_act_Done lf cl) := by intro q0 q1 q2 H K; kernel_rfl
theorem O_act_Done (lf : Nat) (w0 : World) : OkB PG w0 i_act_Done (PK.run [.ptr, .agg, .int .i64] (B_act_Done lf)) := okb mix (fn := Tryz.f37) rfl (E_act_Done lf)

end
end Go.Proofs
end
