import Derived.Test.YtmdidmoffcinjaaGreatVwDed
import Derived.KernelRfl
import Derived.Test.YtmdidmoffcinjaaGreatProg
import Derived.Test.YtmdidmoffcinjaaGreatChecked
section
namespace Go.Proofs
open Go Go.Vw Go.Vw.Ev
noncomputable abbrev PG : Program := Tryz.prog
theorem mix : PG.follows .mixedOrders = true := Tryz.checked.mixed
def i_law26_JudgeOrders : Nat := 6
def i_law26_known : Nat := 8
def i_view_New : Nat := 10
def i_view_View_Take : Nat := 12
def i_judge_Right : Nat := 13
def i_view_View_Beat : Nat := 15
def i_view_View_Things : Nat := 16
def i_judge_Rect : Nat := 17
def i_judge_World : Nat := 18
def i_region_New : Nat := 20
def i_region_Region_End : Nat := 22
def i_region_Region_Take : Nat := 23
def i_judge_Order : Nat := 26
def i_view_View_may : Nat := 37
def i_slices_Clone_Event : Nat := 38
def i_view_View_folds : Nat := 39
def i_slices_EqualFunc_Thing_Thing : Nat := 40
def i_diff_Seen : Nat := 41
def i_thing_Same : Nat := 42
def i_slices_Clone_Thing : Nat := 44
def i_watch_New : Nat := 45
def i_judge_watches : Nat := 46
def i_watch_Book_Do : Nat := 47
def i_watch_Book_Of : Nat := 48
def i_world_Of : Nat := 49
def i_world_World_All : Nat := 50
def i_owner_New : Nat := 51
def i_table_New : Nat := 52
def i_region_Region_heard : Nat := 53
def i_watch_Book_All : Nat := 54
def i_owner_Map_Hand : Nat := 55
def i_table_Table_Lay : Nat := 56
def i_region_Region_comes : Nat := 57
def i_region_Region_frames : Nat := 58
def i_table_Table_All : Nat := 59
def i_note_Copy : Nat := 60
def i_region_Region_leaves : Nat := 61
def i_cmd_Is : Nat := 62
def i_cmd_Watches : Nat := 63
def i_region_Region_watches : Nat := 64
def i_region_Region_hands : Nat := 65
def i_region_Region_does : Nat := 66
def i_thing_Is : Nat := 68
def i_region_Region_Order : Nat := 77
def i_slices_SortStableFunc_Taken : Nat := 78
def i_judge_Order_1 : Nat := 79
def i_cmp_Or_int : Nat := 80
def i_cmp_Compare_int : Nat := 81
def i_slices_ContainsFunc_Event : Nat := 95
def i_view_View_may_1 : Nat := 96
def i_event_Is : Nat := 97
def i_event_Fold : Nat := 98
def i_geom_In : Nat := 99
def i_watch_Clip : Nat := 101
def i_world_New : Nat := 102
def i_world_World_Do : Nat := 103
def i_quad_New : Nat := 104
def i_slices_Clone_Note : Nat := 105
def i_slices_SortStableFunc_Note : Nat := 106
def i_region_Region_heard_1 : Nat := 107
def i_note_Is : Nat := 108
def i_cells_Is : Nat := 109
def i_quad_Tree_Drop : Nat := 110
def i_quad_Tree_Lay : Nat := 111
def i_cells_Of : Nat := 112
def i_region_Region_has : Nat := 113
def i_diff_Of : Nat := 114
def i_table_Table_of : Nat := 115
def i_slices_Sorted_int : Nat := 116
def i_maps_Keys_int_Thing : Nat := 117
def i_slices_Clone_Hand : Nat := 118
def i_slices_Clone_Command : Nat := 119
def i_slices_SortFunc_Hand : Nat := 120
def i_region_Region_leaves_1 : Nat := 121
def i_region_handed : Nat := 122
def i_table_Table_Drop : Nat := 123
def i_fields_IsField : Nat := 124
def i_cmd_core : Nat := 125
def i_cmd_near : Nat := 126
def i_region_Region_Mine : Nat := 128
def i_thing_Number : Nat := 129
def i_act_Check : Nat := 130
def i_act_Done : Nat := 131
def i_geom_On : Nat := 132
def i_slices_ContainsFunc_Field : Nat := 133
def i_thing_Is_1 : Nat := 134
def i_slices_Clone_Taken : Nat := 136
def i_slices_stableCmpFunc_Taken : Nat := 137
def i_cmp_isNaN_int : Nat := 138
def i_slices_IndexFunc_Event : Nat := 159
def i_fields_IsDelta : Nat := 160
def i_event_Apply : Nat := 161
def i_geom_Meet : Nat := 162
def i_table_Table_Len : Nat := 163
def i_slices_stableCmpFunc_Note : Nat := 164
def i_note_Is_1 : Nat := 165
def i_note_isHands : Nat := 166
def i_note_isThings : Nat := 167
def i_slices_ContainsFunc_Command : Nat := 168
def i_quad_Tree_remove : Nat := 169
def i_quad_whole : Nat := 170
def i_quad_Tree_add : Nat := 171
def i_cells_at : Nat := 172
def i_owner_Map_Of : Nat := 173
def i_slices_Sort_int : Nat := 176
def i_slices_pdqsortCmpFunc_Hand : Nat := 178
def i_math_bits_Len : Nat := 179
def i_slices_ContainsFunc_Hand : Nat := 180
def i_region_handed_1 : Nat := 181
def i_table_Table_Get : Nat := 183
def i_act_full : Nat := 184
def i_act_away : Nat := 185
def i_slices_IndexFunc_Field : Nat := 186
def i_slices_insertionSortCmpFunc_Taken : Nat := 187
def i_slices_symMergeCmpFunc_Taken : Nat := 188
def i_slices_BinarySearchFunc_Thing_int : Nat := 199
def i_event_Apply_1 : Nat := 200
def i_slices_Insert_Thing : Nat := 201
def i_fields_Apply : Nat := 202
def i_slices_Delete_Thing : Nat := 203
def i_geom_tidy : Nat := 204
def i_slices_insertionSortCmpFunc_Note : Nat := 205
def i_slices_symMergeCmpFunc_Note : Nat := 206
def i_note_isThings_1 : Nat := 207
def i_slices_IndexFunc_Command : Nat := 208
def i_slices_DeleteFunc_int : Nat := 209
def i_quad_Tree_remove_1 : Nat := 210
def i_quad_which : Nat := 211
def i_quad_quarter : Nat := 212
def i_quad_square_all : Nat := 213
def i_morton_Weave : Nat := 214
def i_slices_insertionSortCmpFunc_Hand : Nat := 217
def i_slices_heapSortCmpFunc_Hand : Nat := 218
def i_slices_breakPatternsCmpFunc_Hand : Nat := 219
def i_slices_choosePivotCmpFunc_Hand : Nat := 220
def i_slices_reverseRangeCmpFunc_Hand : Nat := 221
def i_slices_partialInsertionSortCmpFunc_Hand : Nat := 222
def i_slices_partitionEqualCmpFunc_Hand : Nat := 223
def i_slices_partitionCmpFunc_Hand : Nat := 224
def i_math_bits_Len32 : Nat := 225
def i_math_bits_Len64 : Nat := 226
def i_slices_IndexFunc_Hand : Nat := 227
def i_table_Table_Cell : Nat := 228
def i_geom_Empty : Nat := 234
def i_slices_IndexFunc_int : Nat := 236
def i_slices_Clone_int : Nat := 237
def i_morton_spread : Nat := 238
def i_cells_Rect : Nat := 253
def i_table_Table_In : Nat := 254
def i_cells_place : Nat := 262
def i_quad_Tree_In : Nat := 263
def i_morton_Split : Nat := 266
def i_quad_Tree_in : Nat := 267
def i_morton_gather : Nat := 268
end Go.Proofs
end
section
namespace Go.Proofs
open Go Go.Vw Go.Vw.Ev
set_option maxRecDepth 100000
set_option maxHeartbeats 4000000
set_option linter.unusedVariables false
noncomputable section
def B_geom_In (lf : Nat) (cl : Cl) (q0 : List AS) (q1 : List AS) (H : AH) (K : AV → AH → Bool) : Bool :=
 newK H (.row q0) fun g1 h2 => newK h2 (.row q1) fun g3 h4 => rowK h4 g3 fun cs5 => ldI cs5 0 .i64 fun n6 => rowK h4 g1 fun cs7 => ldI cs7 0 .i64 fun n8 => fB (iLe n8 n6) fun b9 => ifA b9 (rowK h4 g3 fun cs10 => ldI cs10 0 .i64 fun n11 => rowK h4 g1 fun cs12 => ldI cs12 2 .i64 fun n13 => fB (iLt n11 n13) fun b14 => ifA b14 (rowK h4 g3 fun cs15 => ldI cs15 1 .i64 fun n16 => rowK h4 g1 fun cs17 => ldI cs17 1 .i64 fun n18 => fB (iLe n18 n16) fun b19 => ifA b19 (rowK h4 g3 fun cs20 => ldI cs20 1 .i64 fun n21 => rowK h4 g1 fun cs22 => ldI cs22 3 .i64 fun n23 => fB (iLt n21 n23) fun b24 => K (AV.s (AS.bool b24)) h4) (K (AV.s (AS.bool false)) h4)) (K (AV.s (AS.bool false)) h4)) (K (AV.s (AS.bool false)) h4)
theorem E_geom_In (lf : Nat) (cl : Cl) : PK.Eq [.agg, .agg] (evFn PG cl noL noR noJ lf Tryz.f99) (B_geom_In lf cl) := by intro q0 q1 H K; kernel_rfl
theorem O_geom_In (lf : Nat) (w0 : World) : OkB PG w0 i_geom_In (PK.run [.agg, .agg] (B_geom_In lf)) := okb mix (fn := Tryz.f99) rfl (E_geom_In lf)
def B_geom_On (lf : Nat) (cl : Cl) (q0 : List AS) (H : AH) (K : AV → AH → Bool) : Bool :=
 newK H (.row q0) fun g1 h2 => rowK h2 g1 fun cs3 => ldI cs3 0 .i64 fun n4 => fB (iLe (Int.ofNat 0) n4) fun b5 => ifA b5 (rowK h2 g1 fun cs6 => ldI cs6 0 .i64 fun n7 => fB (iLt n7 (Int.ofNat 64)) fun b8 => ifA b8 (rowK h2 g1 fun cs9 => ldI cs9 1 .i64 fun n10 => fB (iLe (Int.ofNat 0) n10) fun b11 => ifA b11 (rowK h2 g1 fun cs12 => ldI cs12 1 .i64 fun n13 => fB (iLt n13 (Int.ofNat 64)) fun b14 => K (AV.s (AS.bool b14)) h2) (K (AV.s (AS.bool false)) h2)) (K (AV.s (AS.bool false)) h2)) (K (AV.s (AS.bool false)) h2)
theorem E_geom_On (lf : Nat) (cl : Cl) : PK.Eq [.agg] (evFn PG cl noL noR noJ lf Tryz.f132) (B_geom_On lf cl) := by intro q0 H K; kernel_rfl
theorem O_geom_On (lf : Nat) (w0 : World) : OkB PG w0 i_geom_On (PK.run [.agg] (B_geom_On lf)) := okb mix (fn := Tryz.f132) rfl (E_geom_On lf)
def B_geom_Meet (lf : Nat) (cl : Cl) (q0 : List AS) (q1 : List AS) (H : AH) (K : AV → AH → Bool) : Bool :=
 newK H (.row q0) fun g1 h2 => newK h2 (.row q1) fun g3 h4 => newK h4 (.row [AS.int .i64 (Int.ofNat 0), AS.int .i64 (Int.ofNat 0), AS.int .i64 (Int.ofNat 0), AS.int .i64 (Int.ofNat 0)]) fun g5 h6 => rowK h6 g1 fun cs7 => ldI cs7 0 .i64 fun n8 => rowK h6 g3 fun cs9 => ldI cs9 0 .i64 fun n10 => fI (mxA n8 n10) fun n11 => rowK h6 g1 fun cs12 => ldI cs12 1 .i64 fun n13 => rowK h6 g3 fun cs14 => ldI cs14 1 .i64 fun n15 => fI (mxA n13 n15) fun n16 => rowK h6 g1 fun cs17 => ldI cs17 2 .i64 fun n18 => rowK h6 g3 fun cs19 => ldI cs19 2 .i64 fun n20 => fI (mnA n18 n20) fun n21 => rowK h6 g1 fun cs22 => ldI cs22 3 .i64 fun n23 => rowK h6 g3 fun cs24 => ldI cs24 3 .i64 fun n25 => fI (mnA n23 n25) fun n26 => cl i_geom_tidy [AV.agg [AS.int .i64 n11, AS.int .i64 n16, AS.int .i64 n21, AS.int .i64 n26]] h6 fun r27 h28 => asG r27 fun cs29 => stoN h28 g5 0 4 cs29 fun h30 => rowK h30 g5 fun cs31 => ldG cs31 0 4 fun cs32 => K (AV.agg cs32) h30
theorem E_geom_Meet (lf : Nat) (cl : Cl) : PK.Eq [.agg, .agg] (evFn PG cl noL noR noJ lf Tryz.f162) (B_geom_Meet lf cl) := by intro q0 q1 H K; kernel_rfl
theorem O_geom_Meet (lf : Nat) (w0 : World) : OkB PG w0 i_geom_Meet (PK.run [.agg, .agg] (B_geom_Meet lf)) := okb mix (fn := Tryz.f162) rfl (E_geom_Meet lf)
def B_geom_tidy (lf : Nat) (cl : Cl) (q0 : List AS) (H : AH) (K : AV → AH → Bool) : Bool :=
 newK H (.row q0) fun g1 h2 => newK h2 (.row [AS.int .i64 (Int.ofNat 0), AS.int .i64 (Int.ofNat 0), AS.int .i64 (Int.ofNat 0), AS.int .i64 (Int.ofNat 0)]) fun g3 h4 => rowK h4 g1 fun cs5 => ldG cs5 0 4 fun cs6 => cl i_geom_Empty [AV.agg cs6] h4 fun r7 h8 => arB r7 fun b9 => ifA b9 (stoN h8 g3 0 4 [AS.int .i64 (Int.ofNat 0), AS.int .i64 (Int.ofNat 0), AS.int .i64 (Int.ofNat 0), AS.int .i64 (Int.ofNat 0)] fun h10 => rowK h10 g3 fun cs11 => ldG cs11 0 4 fun cs12 => K (AV.agg cs12) h10) (rowK h8 g1 fun cs13 => ldG cs13 0 4 fun cs14 => stoN h8 g3 0 4 cs14 fun h15 => rowK h15 g3 fun cs16 => ldG cs16 0 4 fun cs17 => K (AV.agg cs17) h15)
theorem E_geom_tidy (lf : Nat) (cl : Cl) : PK.Eq [.agg] (evFn PG cl noL noR noJ lf Tryz.f204) (B_geom_tidy lf cl) := by intro q0 H K; kernel_rfl
theorem O_geom_tidy (lf : Nat) (w0 : World) : OkB PG w0 i_geom_tidy (PK.run [.agg] (B_geom_tidy lf)) := okb mix (fn := Tryz.f204) rfl (E_geom_tidy lf)
def B_geom_Empty (lf : Nat) (cl : Cl) (q0 : List AS) (H : AH) (K : AV → AH → Bool) : Bool :=
 newK H (.row q0) fun g1 h2 => rowK h2 g1 fun cs3 => ldI cs3 0 .i64 fun n4 => rowK h2 g1 fun cs5 => ldI cs5 2 .i64 fun n6 => fB (iLe n6 n4) fun b7 => ifA b7 (K (AV.s (AS.bool true)) h2) (rowK h2 g1 fun cs8 => ldI cs8 1 .i64 fun n9 => rowK h2 g1 fun cs10 => ldI cs10 3 .i64 fun n11 => fB (iLe n11 n9) fun b12 => K (AV.s (AS.bool b12)) h2)
theorem E_geom_Empty (lf : Nat) (cl : Cl) : PK.Eq [.agg] (evFn PG cl noL noR noJ lf Tryz.f234) (B_geom_Empty lf cl) := by intro q0 H K; kernel_rfl
theorem O_geom_Empty (lf : Nat) (w0 : World) : OkB PG w0 i_geom_Empty (PK.run [.agg] (B_geom_Empty lf)) := okb mix (fn := Tryz.f234) rfl (E_geom_Empty lf)
end
end Go.Proofs
end
section
namespace Go.Proofs
open Go Go.Vw Go.Vw.Ev
set_option maxRecDepth 100000
set_option maxHeartbeats 4000000
set_option linter.unusedVariables false
noncomputable section
def B_quad_New (lf : Nat) (cl : Cl)  (H : AH) (K : AV → AH → Bool) : Bool :=
 newK H (.imap []) fun g1 h2 => newK h2 (.row [AS.map (some g1), AS.int .i64 (Int.ofNat 0), AS.slice AP.nil 0 (.lit 0) 1, AS.ptr AP.nil]) fun g3 h4 => K (AV.s (AS.ptr (.at g3 0))) h4
theorem E_quad_New (lf : Nat) (cl : Cl) : PK.Eq [] (evFn PG cl noL noR noJ lf Tryz.f104) (B_quad_New lf cl) := by intro  H K; kernel_rfl
theorem O_quad_New (lf : Nat) (w0 : World) : OkB PG w0 i_quad_New (PK.run [] (B_quad_New lf)) := okb mix (fn := Tryz.f104) rfl (E_quad_New lf)
def B_quad_Tree_Drop (lf : Nat) (cl : Cl) (q0 : AP) (q1 : Int) (H : AH) (K : AV → AH → Bool) : Bool :=
 nilK q0 fun g1 o2 => fN (Nat.add o2 0) fun o3 => rowK H g1 fun cs4 => ldM cs4 o3 fun r5 => asMp (AV.s (AS.map r5)) fun g9 => mapK H g9 fun es6 => lkZ es6 q1 (AV.agg [AS.int .i64 (Int.ofNat 0), AS.int .i64 (Int.ofNat 0)]) fun v7 b8 => asG v7 fun cs10 => newK H (.row [AS.int .i64 (Int.ofNat 0), AS.int .i64 (Int.ofNat 0)]) fun g11 h12 => stoN h12 g11 0 2 cs10 fun h13 => fB (!b8) fun b14 => ifA b14 (K (AV.s (AS.int .i64 (Int.ofNat 15))) h13) (nilK q0 fun g15 o16 => fN (Nat.add o16 1) fun o17 => cl i_quad_whole [] h13 fun r18 h19 => asG r18 fun cs20 => cl i_quad_Tree_remove [AV.s (AS.ptr q0), AV.s (AS.ptr (.at g15 o17)), AV.agg cs20, AV.s (AS.int .i64 q1)] h19 fun r21 h22 => tup0 r21 (nilK q0 fun g23 o24 => fN (Nat.add o24 0) fun o25 => rowK h22 g23 fun cs26 => ldM cs26 o25 fun r27 => asMp (AV.s (AS.map r27)) fun g31 => mapK h22 g31 fun es28 => fL (delA es28 q1) fun es29 => wrK h22 g31 (some (.imap es29)) fun h30 => K (AV.s (AS.int .i64 (Int.ofNat 0))) h30))
def R_quad_Tree_Drop : Nat → RegHint := fun id => match id with
 | 4 => ⟨(.op 0 (.op 1 (.op 2 (.op 3 (.op 5 (.op 4 (.op 6 .nil))))))), 0, 0, 5, 0⟩
 | _ => ⟨.nil, 0, 0, 0, 0⟩
theorem E_quad_Tree_Drop (lf : Nat) (cl : Cl) : PK.Eq [.ptr, .int .i64] (evFn PG cl noL R_quad_Tree_Drop noJ lf Tryz.f110) (B_quad_Tree_Drop lf cl) := by intro q0 q1 H K; kernel_rfl
theorem O_quad_Tree_Drop (lf : Nat) (w0 : World) : OkB PG w0 i_quad_Tree_Drop (PK.run [.ptr, .int .i64] (B_quad_Tree_Drop lf)) := okb mix (fn := Tryz.f110) rfl (E_quad_Tree_Drop lf)
def B_quad_Tree_Lay (lf : Nat) (cl : Cl) (q0 : AP) (q1 : Int) (q2 : List AS) (H : AH) (K : AV → AH → Bool) : Bool :=
 newK H (.row q2) fun g1 h2 => nilK q0 fun g3 o4 => fN (Nat.add o4 0) fun o5 => rowK h2 g3 fun cs6 => ldM cs6 o5 fun r7 => rowK h2 g1 fun cs8 => ldG cs8 0 2 fun cs9 => asMp (AV.s (AS.map r7)) fun g13 => mapK h2 g13 fun es10 => fL (setA es10 q1 (AV.agg cs9)) fun es11 => wrK h2 g13 (some (.imap es11)) fun h12 => nilK q0 fun g14 o15 => fN (Nat.add o15 1) fun o16 => cl i_quad_whole [] h12 fun r17 h18 => asG r17 fun cs19 => cl i_quad_Tree_add [AV.s (AS.ptr q0), AV.s (AS.ptr (.at g14 o16)), AV.agg cs19, AV.s (AS.int .i64 (Int.ofNat 0)), AV.s (AS.int .i64 q1)] h18 fun r20 h21 => tup0 r20 (K (AV.tup []) h21)
def R_quad_Tree_Lay : Nat → RegHint := fun id => match id with
 | 1 => ⟨(.op 0 (.op 1 (.op 2 (.op 3 (.op 4 (.op 5 (.op 6 .nil))))))), 0, 0, 6, 0⟩
 | 2 => ⟨(.op 0 (.op 1 (.op 2 (.op 3 (.op 5 (.op 4 (.op 6 .nil))))))), 0, 0, 5, 0⟩
 | _ => ⟨.nil, 0, 0, 0, 0⟩
theorem E_quad_Tree_Lay (lf : Nat) (cl : Cl) : PK.Eq [.ptr, .int .i64, .agg] (evFn PG cl noL R_quad_Tree_Lay noJ lf Tryz.f111) (B_quad_Tree_Lay lf cl) := by intro q0 q1 q2 H K; kernel_rfl
theorem O_quad_Tree_Lay (lf : Nat) (w0 : World) : OkB PG w0 i_quad_Tree_Lay (PK.run [.ptr, .int .i64, .agg] (B_quad_Tree_Lay lf)) := okb mix (fn := Tryz.f111) rfl (E_quad_Tree_Lay lf)
def B_quad_Tree_remove (lf : Nat) (cl : Cl) (q0 : AP) (q1 : AP) (q2 : List AS) (q3 : Int) (H : AH) (K : AV → AH → Bool) : Bool :=
 newK H (.row q2) fun g1 h2 => newK h2 (.row [AS.int .i64 q3]) fun g3 h4 => nilK q1 fun g5 o6 => fN (Nat.add o6 0) fun o7 => rowK h4 g5 fun cs8 => ldI cs8 o7 .i64 fun n9 => w64 (iSub n9 (Int.ofNat 1)) fun n10 => nilK q1 fun g11 o12 => fN (Nat.add o12 0) fun o13 => sto1 h4 g11 o13 (AS.int .i64 n10) fun h14 => nilK q1 fun g15 o16 => fN (Nat.add o16 2) fun o17 => rowK h14 g15 fun cs18 => ldP cs18 o17 fun p19 => fB (isNilP p19) fun b20 => ifA b20 (nilK q1 fun g21 o22 => fN (Nat.add o22 1) fun o23 => rowK h14 g21 fun cs24 => ldSl cs24 o23 fun p25 l25 c25 z25 => cl i_slices_DeleteFunc_int [AV.s (AS.slice p25 l25 c25 z25), AV.s (AS.func i_quad_Tree_remove_1 [] [AS.ptr (.at g3 0)])] h14 fun r26 h27 => asSl r26 fun p28 l28 c28 z28 => nilK q1 fun g29 o30 => fN (Nat.add o30 1) fun o31 => sto1 h27 g29 o31 (AS.slice p28 l28 c28 z28) fun h32 => K (AV.tup []) h32) (rowK h14 g1 fun cs33 => ldG cs33 0 4 fun cs34 => nilK q0 fun g35 o36 => fN (Nat.add o36 0) fun o37 => rowK h14 g35 fun cs38 => ldM cs38 o37 fun r39 => rowK h14 g3 fun cs40 => ldI cs40 0 .i64 fun n41 => asMp (AV.s (AS.map r39)) fun g45 => mapK h14 g45 fun es42 => lkZ es42 n41 (AV.agg [AS.int .i64 (Int.ofNat 0), AS.int .i64 (Int.ofNat 0)]) fun v43 b44 => asG v43 fun cs46 => cl i_quad_which [AV.agg cs34, AV.agg cs46] h14 fun r47 h48 => arI r47 .i64 fun n49 => nilK q1 fun g50 o51 => fN (Nat.add o51 2) fun o52 => getK h48 g50 fun k53 => rowK h48 g50 fun cs54 => ldP cs54 o52 fun p55 => nilK p55 fun g56 o57 => idxK n49 4 fun m58 => fN (Nat.add o57 (Nat.mul m58 3)) fun o59 => rowK h48 g1 fun cs60 => ldG cs60 0 4 fun cs61 => getK h48 g3 fun k62 => rowK h48 g3 fun cs63 => ldI cs63 0 .i64 fun n64 => cl i_quad_quarter [AV.agg cs61, AV.s (AS.int .i64 n49)] h48 fun r65 h66 => okK (kSame ((g3, k62) :: ((g50, k53) :: [])) h66) (asG r65 fun cs67 => cl i_quad_Tree_remove [AV.s (AS.ptr q0), AV.s (AS.ptr (.at g56 o59)), AV.agg cs67, AV.s (AS.int .i64 n64)] h66 fun r68 h69 => tup0 r68 (nilK q1 fun g70 o71 => fN (Nat.add o71 0) fun o72 => rowK h69 g70 fun cs73 => ldI cs73 o72 .i64 fun n74 => fB (iLe n74 (Int.ofNat 4)) fun b75 => ifA b75 (cl i_quad_square_all [AV.s (AS.ptr q1)] h69 fun r76 h77 => asSl r76 fun p78 l78 c78 z78 => nilK q1 fun g79 o80 => fN (Nat.add o80 1) fun o81 => sto1 h77 g79 o81 (AS.slice p78 l78 c78 z78) fun h82 => nilK q1 fun g83 o84 => fN (Nat.add o84 2) fun o85 => sto1 h82 g83 o85 (AS.ptr AP.nil) fun h86 => K (AV.tup []) h86) (K (AV.tup []) h69))))
def R_quad_Tree_remove : Nat → RegHint := fun id => match id with
 | 4 => ⟨(.op 0 (.op 1 (.op 2 (.op 3 (.op 4 (.op 5 (.op 6 (.op 7 (.op 8 .nil))))))))), 0, 0, 7, 0⟩
 | 5 => ⟨(.op 0 (.op 1 (.op 2 (.op 3 (.op 4 (.op 5 (.op 6 (.op 7 (.op 8 (.op 9 (.op 11 (.op 10 (.op 12 .nil))))))))))))), 1024, 2064, 11, 0⟩
 | _ => ⟨.nil, 0, 0, 0, 0⟩
theorem E_quad_Tree_remove (lf : Nat) (cl : Cl) : PK.Eq [.ptr, .ptr, .agg, .int .i64] (evFn PG cl noL R_quad_Tree_remove noJ lf Tryz.f169) (B_quad_Tree_remove lf cl) := by intro q0 q1 q2 q3 H K; kernel_rfl
theorem O_quad_Tree_remove (lf : Nat) (w0 : World) : OkB PG w0 i_quad_Tree_remove (PK.run [.ptr, .ptr, .agg, .int .i64] (B_quad_Tree_remove lf)) := okb mix (fn := Tryz.f169) rfl (E_quad_Tree_remove lf)
def B_quad_whole (lf : Nat) (cl : Cl)  (H : AH) (K : AV → AH → Bool) : Bool :=
 newK H (.row [AS.int .i64 (Int.ofNat 0), AS.int .i64 (Int.ofNat 0), AS.int .i64 (Int.ofNat 0), AS.int .i64 (Int.ofNat 0)]) fun g1 h2 => stoN h2 g1 0 4 [AS.int .i64 (Int.ofNat 0), AS.int .i64 (Int.ofNat 0), AS.int .i64 (Int.ofNat 64), AS.int .i64 (Int.ofNat 64)] fun h3 => rowK h3 g1 fun cs4 => ldG cs4 0 4 fun cs5 => K (AV.agg cs5) h3
theorem E_quad_whole (lf : Nat) (cl : Cl) : PK.Eq [] (evFn PG cl noL noR noJ lf Tryz.f170) (B_quad_whole lf cl) := by intro  H K; kernel_rfl
theorem O_quad_whole (lf : Nat) (w0 : World) : OkB PG w0 i_quad_whole (PK.run [] (B_quad_whole lf)) := okb mix (fn := Tryz.f170) rfl (E_quad_whole lf)
def B_quad_Tree_add (lf : Nat) (cl : Cl) (q0 : AP) (q1 : AP) (q2 : List AS) (q3 : Int) (q4 : Int) (H : AH) (K : AV → AH → Bool) : Bool :=
 newK H (.row q2) fun g1 h2 => (loopX lf (fun (self5 : (AP × AP × Int × Int × AP) → AH → Bool) (x3 : AP × AP × Int × Int × AP) (h4 : AH) => pR x3 fun p6 r7 => pR r7 fun p8 r9 => pR r9 fun n10 r11 => pR r11 fun n12 r13 => nilK p8 fun g15 o16 => fN (Nat.add o16 0) fun o17 => rowK h4 g15 fun cs18 => ldI cs18 o17 .i64 fun n19 => w64 (iAdd n19 (Int.ofNat 1)) fun n20 => nilK p8 fun g21 o22 => fN (Nat.add o22 0) fun o23 => sto1 h4 g21 o23 (AS.int .i64 n20) fun h24 => nilK p8 fun g25 o26 => fN (Nat.add o26 2) fun o27 => rowK h24 g25 fun cs28 => ldP cs28 o27 fun p29 => fB (!isNilP p29) fun b30 => ifA b30 (nilK r13 fun g31 o32 => rowK h24 g31 fun cs33 => ldG cs33 o32 4 fun cs34 => nilK p6 fun g35 o36 => fN (Nat.add o36 0) fun o37 => rowK h24 g35 fun cs38 => ldM cs38 o37 fun r39 => asMp (AV.s (AS.map r39)) fun g43 => mapK h24 g43 fun es40 => lkZ es40 n12 (AV.agg [AS.int .i64 (Int.ofNat 0), AS.int .i64 (Int.ofNat 0)]) fun v41 b42 => asG v41 fun cs44 => cl i_quad_which [AV.agg cs34, AV.agg cs44] h24 fun r45 h46 => arI r45 .i64 fun n47 => nilK p8 fun g48 o49 => fN (Nat.add o49 2) fun o50 => getK h46 g48 fun k51 => rowK h46 g48 fun cs52 => ldP cs52 o50 fun p53 => nilK p53 fun g54 o55 => idxK n47 4 fun m56 => fN (Nat.add o55 (Nat.mul m56 3)) fun o57 => nilK r13 fun g58 o59 => rowK h46 g58 fun cs60 => ldG cs60 o59 4 fun cs61 => w64 (iAdd n10 (Int.ofNat 1)) fun n62 => cl i_quad_quarter [AV.agg cs61, AV.s (AS.int .i64 n47)] h46 fun r63 h64 => okK (kSame ((g48, k51) :: []) h64) (asG r63 fun cs65 => nilK r13 fun g66 o67 => stoN h64 g66 o67 4 cs65 fun h68 => self5 (p6, (.at g54 o57), n62, n12, r13) h68)) (joinX (fun (x76 : AP × AP × Int × Int × AP × Bool) (h77 : AH) => pR x76 fun p79 r80 => pR r80 fun p81 r82 => pR r82 fun n83 r84 => pR r84 fun n85 r86 => pR r86 fun p87 r88 => ifA r88 (nilK p81 fun g90 o91 => fN (Nat.add o91 1) fun o92 => rowK h77 g90 fun cs93 => ldSl cs93 o92 fun p94 l94 c94 z94 => newK h77 (.row [AS.int .i64 n85]) fun g95 h96 => elK h96 (.at g95 0) 1 1 fun ys97 => appA h96 p94 l94 z94 1 8 ys97 1 c94 fun p99 l99 c99 z99 h98 => nilK p81 fun g100 o101 => fN (Nat.add o101 1) fun o102 => sto1 h98 g100 o102 (AS.slice p99 l99 c99 z99) fun h103 => K (AV.tup []) h103) (nilK p81 fun g104 o105 => fN (Nat.add o105 1) fun o106 => rowK h77 g104 fun cs107 => ldSl cs107 o106 fun p108 l108 c108 z108 => newK h77 (.row [AS.int .i64 n85]) fun g109 h110 => elK h110 (.at g109 0) 1 1 fun ys111 => appA h110 p108 l108 z108 1 8 ys111 1 c108 fun p113 l113 c113 z113 h112 => newK h112 (.row [AS.int .i64 (Int.ofNat 0), AS.slice AP.nil 0 (.lit 0) 1, AS.ptr AP.nil, AS.int .i64 (Int.ofNat 0), AS.slice AP.nil 0 (.lit 0) 1, AS.ptr AP.nil, AS.int .i64 (Int.ofNat 0), AS.slice AP.nil 0 (.lit 0) 1, AS.ptr AP.nil, AS.int .i64 (Int.ofNat 0), AS.slice AP.nil 0 (.lit 0) 1, AS.ptr AP.nil]) fun g114 h115 => nilK p81 fun g116 o117 => fN (Nat.add o117 1) fun o118 => sto1 h115 g116 o118 (AS.slice AP.nil 0 (.lit 0) 1) fun h119 => nilK p81 fun g120 o121 => fN (Nat.add o121 2) fun o122 => sto1 h119 g120 o122 (AS.ptr (.at g114 0)) fun h123 => (loopX lf (fun (self126 : (AP × AP × Int × AP × (AP × Nat × ACap × Nat) × Int × Int) → AH → Bool) (x124 : AP × AP × Int × AP × (AP × Nat × ACap × Nat) × Int × Int) (h125 : AH) => pR x124 fun p127 r128 => pR r128 fun p129 r130 => pR r130 fun n131 r132 => pR r132 fun p133 r134 => pR r134 fun u135 r135 => pR u135 fun p135 r135a => pR r135a fun l135 r135b => pR r135b fun c135 z135 => pR r135 fun n136 r137 => fB (iLt r137 n136) fun b139 => ifA b139 (nilK p135 fun g140 o141 => idxK r137 l135 fun m142 => fN (Nat.add o141 (Nat.mul m142 1)) fun o143 => rowK h125 g140 fun cs144 => ldI cs144 o143 .i64 fun n145 => nilK p133 fun g146 o147 => rowK h125 g146 fun cs148 => ldG cs148 o147 4 fun cs149 => nilK p127 fun g150 o151 => fN (Nat.add o151 0) fun o152 => rowK h125 g150 fun cs153 => ldM cs153 o152 fun r154 => asMp (AV.s (AS.map r154)) fun g158 => mapK h125 g158 fun es155 => lkZ es155 n145 (AV.agg [AS.int .i64 (Int.ofNat 0), AS.int .i64 (Int.ofNat 0)]) fun v156 b157 => asG v156 fun cs159 => cl i_quad_which [AV.agg cs149, AV.agg cs159] h125 fun r160 h161 => arI r160 .i64 fun n162 => nilK p129 fun g163 o164 => fN (Nat.add o164 2) fun o165 => getK h161 g163 fun k166 => rowK h161 g163 fun cs167 => ldP cs167 o165 fun p168 => nilK p168 fun g169 o170 => idxK n162 4 fun m171 => fN (Nat.add o170 (Nat.mul m171 3)) fun o172 => nilK p133 fun g173 o174 => rowK h161 g173 fun cs175 => ldG cs175 o174 4 fun cs176 => w64 (iAdd n131 (Int.ofNat 1)) fun n177 => cl i_quad_quarter [AV.agg cs176, AV.s (AS.int .i64 n162)] h161 fun r178 h179 => okK (kSame ((g163, k166) :: []) h179) (asG r178 fun cs180 => cl i_quad_Tree_add [AV.s (AS.ptr p127), AV.s (AS.ptr (.at g169 o172)), AV.agg cs180, AV.s (AS.int .i64 n177), AV.s (AS.int .i64 n145)] h179 fun r181 h182 => tup0 r181 (w64 (iAdd r137 (Int.ofNat 1)) fun n183 => self126 (p127, p129, n131, p133, (p135, l135, c135, z135), n136, n183) h182))) (K (AV.tup []) h125)) (p79, p81, n83, p87, (p113, l113, c113, z113), (Int.ofNat l113), (Int.ofNat 0)) h123))) fun J78 => nilK p8 fun g69 o70 => fN (Nat.add o70 0) fun o71 => rowK h24 g69 fun cs72 => ldI cs72 o71 .i64 fun n73 => fB (iLe n73 (Int.ofNat 4)) fun b74 => ifA b74 (J78 (p6, p8, n10, n12, r13, true) h24) (fB (iEq n10 (Int.ofNat 4)) fun b75 => J78 (p6, p8, n10, n12, r13, b75) h24))) (q0, q1, q3, q4, (.at g1 0)) h2)
def L_quad_Tree_add : Nat → LoopA := fun id => match id with
 | 1 => ⟨AP × AP × Int × Int × AP, (.pair (EncA.ptr 0) (.pair (EncA.ptr 1) (.pair (EncA.int .i64 3) (.pair (EncA.int .i64 4) (EncA.ptr 7)))))⟩
 | 10 => ⟨AP × AP × Int × AP × (AP × Nat × ACap × Nat) × Int × Int, (.pair (EncA.ptr 0) (.pair (EncA.ptr 1) (.pair (EncA.int .i64 3) (.pair (EncA.ptr 7) (.pair (EncA.slice 83) (.pair (EncA.int .i64 84) (EncA.int .i64 85)))))))⟩
 | _ => noA
def R_quad_Tree_add : Nat → RegHint := fun id => match id with
 | 3 => ⟨(.op 0 (.op 1 (.op 2 (.op 3 (.op 4 (.op 5 (.op 6 (.op 7 (.op 8 .nil))))))))), 0, 0, 7, 0⟩
 | 4 => ⟨(.op 0 (.op 1 (.op 2 (.op 3 (.op 4 (.op 5 (.op 6 (.op 7 (.op 8 (.op 10 (.op 11 (.op 9 (.op 12 (.op 13 (.op 14 .nil))))))))))))))), 512, 8, 11, 0⟩
 | 12 => ⟨(.op 0 (.op 1 (.op 2 (.op 3 (.op 4 (.op 5 (.op 6 (.op 7 (.op 8 .nil))))))))), 0, 0, 7, 0⟩
 | 13 => ⟨(.op 0 (.op 1 (.op 2 (.op 3 (.op 4 (.op 5 (.op 6 (.op 7 (.op 8 (.op 9 (.op 11 (.op 12 (.op 13 (.op 10 (.op 14 .nil))))))))))))))), 1024, 16, 13, 0⟩
 | _ => ⟨.nil, 0, 0, 0, 0⟩
def J_quad_Tree_add : Option Nat → Option LoopA := fun id => match id with
 | some 6 => some ⟨AP × AP × Int × Int × AP × Bool, (.pair (EncA.ptr 0) (.pair (EncA.ptr 1) (.pair (EncA.int .i64 3) (.pair (EncA.int .i64 4) (.pair (EncA.ptr 7) (EncA.bool 48))))))⟩
 | _ => none
theorem E_quad_Tree_add (lf : Nat) (cl : Cl) : PK.Eq [.ptr, .ptr, .agg, .int .i64, .int .i64] (evFn PG cl L_quad_Tree_add R_quad_Tree_add J_quad_Tree_add lf Tryz.f171) (B_quad_Tree_add lf cl) := by intro q0 q1 q2 q3 q4 H K; kernel_rfl
theorem O_quad_Tree_add (lf : Nat) (w0 : World) : OkB PG w0 i_quad_Tree_add (PK.run [.ptr, .ptr, .agg, .int .i64, .int .i64] (B_quad_Tree_add lf)) := okb mix (fn := Tryz.f171) rfl (E_quad_Tree_add lf)
def B_quad_Tree_remove_1 (lf : Nat) (cl : Cl) (q0 : Int) (q1 : AP) (H : AH) (K : AV → AH → Bool) : Bool :=
 nilK q1 fun g1 o2 => rowK H g1 fun cs3 => ldI cs3 o2 .i64 fun n4 => fB (iEq q0 n4) fun b5 => K (AV.s (AS.bool b5)) H
theorem E_quad_Tree_remove_1 (lf : Nat) (cl : Cl) : PK.Eq [.int .i64, .ptr] (evFn PG cl noL noR noJ lf Tryz.f210) (B_quad_Tree_remove_1 lf cl) := by intro q0 q1 H K; kernel_rfl
theorem O_quad_Tree_remove_1 (lf : Nat) (w0 : World) : OkB PG w0 i_quad_Tree_remove_1 (PK.run [.int .i64, .ptr] (B_quad_Tree_remove_1 lf)) := okb mix (fn := Tryz.f210) rfl (E_quad_Tree_remove_1 lf)
def B_quad_which (lf : Nat) (cl : Cl) (q0 : List AS) (q1 : List AS) (H : AH) (K : AV → AH → Bool) : Bool :=
 newK H (.row q0) fun g1 h2 => newK h2 (.row q1) fun g3 h4 => joinX (fun (x15 : AP × AP × Int) (h16 : AH) => pR x15 fun p18 r19 => pR r19 fun p20 r21 => nilK p20 fun g23 o24 => fN (Nat.add o24 1) fun o25 => rowK h16 g23 fun cs26 => ldI cs26 o25 .i64 fun n27 => nilK p18 fun g28 o29 => fN (Nat.add o29 1) fun o30 => rowK h16 g28 fun cs31 => ldI cs31 o30 .i64 fun n32 => nilK p18 fun g33 o34 => fN (Nat.add o34 3) fun o35 => rowK h16 g33 fun cs36 => ldI cs36 o35 .i64 fun n37 => w64 (iAdd n32 n37) fun n38 => w64 (Int.tdiv n38 (Int.ofNat 2)) fun n39 => fB (iLe n39 n27) fun b40 => ifA b40 (w64 (iAdd r21 (Int.ofNat 2)) fun n41 => K (AV.s (AS.int .i64 n41)) h16) (K (AV.s (AS.int .i64 r21)) h16)) fun J17 => rowK h4 g3 fun cs5 => ldI cs5 0 .i64 fun n6 => rowK h4 g1 fun cs7 => ldI cs7 0 .i64 fun n8 => rowK h4 g1 fun cs9 => ldI cs9 2 .i64 fun n10 => w64 (iAdd n8 n10) fun n11 => w64 (Int.tdiv n11 (Int.ofNat 2)) fun n12 => fB (iLe n12 n6) fun b13 => ifA b13 (w64 (iAdd (Int.ofNat 0) (Int.ofNat 1)) fun n14 => J17 ((.at g1 0), (.at g3 0), n14) h4) (J17 ((.at g1 0), (.at g3 0), (Int.ofNat 0)) h4)
def J_quad_which : Option Nat → Option LoopA := fun id => match id with
 | some 4 => some ⟨AP × AP × Int, (.pair (EncA.ptr 2) (.pair (EncA.ptr 3) (EncA.int .i64 5)))⟩
 | _ => none
theorem E_quad_which (lf : Nat) (cl : Cl) : PK.Eq [.agg, .agg] (evFn PG cl noL noR J_quad_which lf Tryz.f211) (B_quad_which lf cl) := by intro q0 q1 H K; kernel_rfl
theorem O_quad_which (lf : Nat) (w0 : World) : OkB PG w0 i_quad_which (PK.run [.agg, .agg] (B_quad_which lf)) := okb mix (fn := Tryz.f211) rfl (E_quad_which lf)
def B_quad_quarter (lf : Nat) (cl : Cl) (q0 : List AS) (q1 : Int) (H : AH) (K : AV → AH → Bool) : Bool :=
 newK H (.row q0) fun g1 h2 => newK h2 (.row [AS.int .i64 (Int.ofNat 0), AS.int .i64 (Int.ofNat 0), AS.int .i64 (Int.ofNat 0), AS.int .i64 (Int.ofNat 0)]) fun g3 h4 => rowK h4 g1 fun cs5 => ldI cs5 2 .i64 fun n6 => rowK h4 g1 fun cs7 => ldI cs7 0 .i64 fun n8 => w64 (iSub n6 n8) fun n9 => w64 (Int.tdiv n9 (Int.ofNat 2)) fun n10 => rowK h4 g1 fun cs11 => ldI cs11 0 .i64 fun n12 => fI (Int.tmod q1 (Int.ofNat 2)) fun n13 => w64 (iMul n10 n13) fun n14 => w64 (iAdd n12 n14) fun n15 => rowK h4 g1 fun cs16 => ldI cs16 1 .i64 fun n17 => w64 (Int.tdiv q1 (Int.ofNat 2)) fun n18 => w64 (iMul n10 n18) fun n19 => w64 (iAdd n17 n19) fun n20 => w64 (iAdd n15 n10) fun n21 => w64 (iAdd n20 n10) fun n22 => stoN h4 g3 0 4 [AS.int .i64 n15, AS.int .i64 n20, AS.int .i64 n21, AS.int .i64 n22] fun h23 => rowK h23 g3 fun cs24 => ldG cs24 0 4 fun cs25 => K (AV.agg cs25) h23
def R_quad_quarter : Nat → RegHint := fun id => match id with
 | 2 => ⟨(.op 0 (.op 1 (.op 2 (.op 3 (.op 4 (.op 5 (.op 6 (.op 7 (.op 8 (.op 9 (.op 10 (.op 11 (.op 12 (.op 13 (.op 14 (.op 15 .nil)))))))))))))))), 0, 0, 16, 0⟩
 | _ => ⟨.nil, 0, 0, 0, 0⟩
theorem E_quad_quarter (lf : Nat) (cl : Cl) : PK.Eq [.agg, .int .i64] (evFn PG cl noL R_quad_quarter noJ lf Tryz.f212) (B_quad_quarter lf cl) := by intro q0 q1 H K; kernel_rfl
theorem O_quad_quarter (lf : Nat) (w0 : World) : OkB PG w0 i_quad_quarter (PK.run [.agg, .int .i64] (B_quad_quarter lf)) := okb mix (fn := Tryz.f212) rfl (E_quad_quarter lf)
def B_quad_square_all (lf : Nat) (cl : Cl) (q0 : AP) (H : AH) (K : AV → AH → Bool) : Bool :=
 nilK q0 fun g1 o2 => fN (Nat.add o2 1) fun o3 => rowK H g1 fun cs4 => ldSl cs4 o3 fun p5 l5 c5 z5 => cl i_slices_Clone_int [AV.s (AS.slice p5 l5 c5 z5)] H fun r6 h7 => asSl r6 fun p8 l8 c8 z8 => (loopX lf (fun (self11 : (AP × (AP × Nat × ACap × Nat) × Int) → AH → Bool) (x9 : AP × (AP × Nat × ACap × Nat) × Int) (h10 : AH) => pR x9 fun p12 r13 => pR r13 fun u14 r14 => pR u14 fun p14 r14a => pR r14a fun l14 r14b => pR r14b fun c14 z14 => nilK p12 fun g16 o17 => fN (Nat.add o17 2) fun o18 => rowK h10 g16 fun cs19 => ldP cs19 o18 fun p20 => fB (!isNilP p20) fun b21 => ifA b21 (fB (iLt r14 (Int.ofNat 4)) fun b22 => ifA b22 (nilK p12 fun g23 o24 => fN (Nat.add o24 2) fun o25 => rowK h10 g23 fun cs26 => ldP cs26 o25 fun p27 => nilK p27 fun g28 o29 => idxK r14 4 fun m30 => fN (Nat.add o29 (Nat.mul m30 3)) fun o31 => cl i_quad_square_all [AV.s (AS.ptr (.at g28 o31))] h10 fun r32 h33 => asSl r32 fun p34 l34 c34 z34 => elK h33 p34 l34 1 fun ys35 => appA h33 p14 l14 z14 1 8 ys35 l34 c14 fun p37 l37 c37 z37 h36 => w64 (iAdd r14 (Int.ofNat 1)) fun n38 => self11 (p12, (p37, l37, c37, z37), n38) h36) (K (AV.s (AS.slice p14 l14 c14 z14)) h10)) (K (AV.s (AS.slice p14 l14 c14 z14)) h10)) (q0, (p8, l8, c8, z8), (Int.ofNat 0)) h7)
def L_quad_square_all : Nat → LoopA := fun id => match id with
 | 3 => ⟨AP × (AP × Nat × ACap × Nat) × Int, (.pair (EncA.ptr 0) (.pair (EncA.slice 3) (EncA.int .i64 4)))⟩
 | _ => noA
theorem E_quad_square_all (lf : Nat) (cl : Cl) : PK.Eq [.ptr] (evFn PG cl L_quad_square_all noR noJ lf Tryz.f213) (B_quad_square_all lf cl) := by intro q0 H K; kernel_rfl
theorem O_quad_square_all (lf : Nat) (w0 : World) : OkB PG w0 i_quad_square_all (PK.run [.ptr] (B_quad_square_all lf)) := okb mix (fn := Tryz.f213) rfl (E_quad_square_all lf)
def B_quad_Tree_In (lf : Nat) (cl : Cl) (q0 : AP) (q1 : List AS) (H : AH) (K : AV → AH → Bool) : Bool :=
 newK H (.row q1) fun g1 h2 => nilK q0 fun g3 o4 => fN (Nat.add o4 1) fun o5 => getK h2 g1 fun k6 => rowK h2 g1 fun cs7 => ldG cs7 0 4 fun cs8 => cl i_quad_whole [] h2 fun r9 h10 => okK (kSame ((g1, k6) :: []) h10) (asG r9 fun cs11 => cl i_quad_Tree_in [AV.s (AS.ptr q0), AV.s (AS.slice AP.nil 0 (.lit 0) 1), AV.s (AS.ptr (.at g3 o5)), AV.agg cs11, AV.agg cs8] h10 fun r12 h13 => asSl r12 fun p14 l14 c14 z14 => cl i_slices_Sort_int [AV.s (AS.slice p14 l14 c14 z14)] h13 fun r15 h16 => tup0 r15 (K (AV.s (AS.slice p14 l14 c14 z14)) h16))
def R_quad_Tree_In : Nat → RegHint := fun id => match id with
 | 1 => ⟨(.op 0 (.op 1 (.op 2 (.op 3 (.op 5 (.op 4 (.op 6 (.op 7 .nil)))))))), 16, 32, 5, 0⟩
 | _ => ⟨.nil, 0, 0, 0, 0⟩
theorem E_quad_Tree_In (lf : Nat) (cl : Cl) : PK.Eq [.ptr, .agg] (evFn PG cl noL R_quad_Tree_In noJ lf Tryz.f263) (B_quad_Tree_In lf cl) := by intro q0 q1 H K; kernel_rfl
theorem O_quad_Tree_In (lf : Nat) (w0 : World) : OkB PG w0 i_quad_Tree_In (PK.run [.ptr, .agg] (B_quad_Tree_In lf)) := okb mix (fn := Tryz.f263) rfl (E_quad_Tree_In lf)
def B_quad_Tree_in (lf : Nat) (cl : Cl) (q0 : AP) (q1p : AP) (q1n : Nat) (q1c : ACap) (q1z : Nat) (q2 : AP) (q3 : List AS) (q4 : List AS) (H : AH) (K : AV → AH → Bool) : Bool :=
 newK H (.row q3) fun g1 h2 => newK h2 (.row q4) fun g3 h4 => nilK q2 fun g5 o6 => fN (Nat.add o6 0) fun o7 => rowK h4 g5 fun cs8 => ldI cs8 o7 .i64 fun n9 => fB (iEq n9 (Int.ofNat 0)) fun b10 => ifA b10 (K (AV.s (AS.slice q1p q1n q1c q1z)) h4) (rowK h4 g1 fun cs11 => ldG cs11 0 4 fun cs12 => rowK h4 g3 fun cs13 => ldG cs13 0 4 fun cs14 => cl i_geom_Meet [AV.agg cs12, AV.agg cs14] h4 fun r15 h16 => asG r15 fun cs17 => cl i_geom_Empty [AV.agg cs17] h16 fun r18 h19 => arB r18 fun b20 => ifA b20 (K (AV.s (AS.slice q1p q1n q1c q1z)) h19) (nilK q2 fun g21 o22 => fN (Nat.add o22 1) fun o23 => rowK h19 g21 fun cs24 => ldSl cs24 o23 fun p25 l25 c25 z25 => (loopX lf (fun (self28 : (AP × (AP × Nat × ACap × Nat) × AP × AP × AP × (AP × Nat × ACap × Nat) × Int × Int) → AH → Bool) (x26 : AP × (AP × Nat × ACap × Nat) × AP × AP × AP × (AP × Nat × ACap × Nat) × Int × Int) (h27 : AH) => pR x26 fun p29 r30 => pR r30 fun u31 r31 => pR u31 fun p31 r31a => pR r31a fun l31 r31b => pR r31b fun c31 z31 => pR r31 fun p32 r33 => pR r33 fun p34 r35 => pR r35 fun p36 r37 => pR r37 fun u38 r38 => pR u38 fun p38 r38a => pR r38a fun l38 r38b => pR r38b fun c38 z38 => pR r38 fun n39 r40 => fB (iLt r40 n39) fun b42 => ifA b42 (nilK p38 fun g43 o44 => idxK r40 l38 fun m45 => fN (Nat.add o44 (Nat.mul m45 1)) fun o46 => rowK h27 g43 fun cs47 => ldI cs47 o46 .i64 fun n48 => nilK p36 fun g49 o50 => rowK h27 g49 fun cs51 => ldG cs51 o50 4 fun cs52 => nilK p29 fun g53 o54 => fN (Nat.add o54 0) fun o55 => rowK h27 g53 fun cs56 => ldM cs56 o55 fun r57 => asMp (AV.s (AS.map r57)) fun g61 => mapK h27 g61 fun es58 => lkZ es58 n48 (AV.agg [AS.int .i64 (Int.ofNat 0), AS.int .i64 (Int.ofNat 0)]) fun v59 b60 => asG v59 fun cs62 => cl i_geom_In [AV.agg cs52, AV.agg cs62] h27 fun r63 h64 => arB r63 fun b65 => ifA b65 (newK h64 (.row [AS.int .i64 n48]) fun g66 h67 => elK h67 (.at g66 0) 1 1 fun ys68 => appA h67 p31 l31 z31 1 8 ys68 1 c31 fun p70 l70 c70 z70 h69 => w64 (iAdd r40 (Int.ofNat 1)) fun n71 => self28 (p29, (p70, l70, c70, z70), p32, p34, p36, (p38, l38, c38, z38), n39, n71) h69) (w64 (iAdd r40 (Int.ofNat 1)) fun n72 => self28 (p29, (p31, l31, c31, z31), p32, p34, p36, (p38, l38, c38, z38), n39, n72) h64)) ((loopX lf (fun (self75 : (AP × (AP × Nat × ACap × Nat) × AP × AP × AP × Int) → AH → Bool) (x73 : AP × (AP × Nat × ACap × Nat) × AP × AP × AP × Int) (h74 : AH) => pR x73 fun p76 r77 => pR r77 fun u78 r78 => pR u78 fun p78 r78a => pR r78a fun l78 r78b => pR r78b fun c78 z78 => pR r78 fun p79 r80 => pR r80 fun p81 r82 => pR r82 fun p83 r84 => nilK p79 fun g86 o87 => fN (Nat.add o87 2) fun o88 => rowK h74 g86 fun cs89 => ldP cs89 o88 fun p90 => fB (!isNilP p90) fun b91 => ifA b91 (fB (iLt r84 (Int.ofNat 4)) fun b92 => ifA b92 (nilK p79 fun g93 o94 => fN (Nat.add o94 2) fun o95 => getK h74 g93 fun k96 => rowK h74 g93 fun cs97 => ldP cs97 o95 fun p98 => nilK p98 fun g99 o100 => idxK r84 4 fun m101 => fN (Nat.add o100 (Nat.mul m101 3)) fun o102 => nilK p81 fun g103 o104 => rowK h74 g103 fun cs105 => ldG cs105 o104 4 fun cs106 => nilK p83 fun g108 o109 => getK h74 g108 fun k107 => nilK p83 fun g110 o111 => rowK h74 g110 fun cs112 => ldG cs112 o111 4 fun cs113 => cl i_quad_quarter [AV.agg cs106, AV.s (AS.int .i64 r84)] h74 fun r114 h115 => okK (kSame ((g108, k107) :: ((g93, k96) :: [])) h115) (asG r114 fun cs116 => cl i_quad_Tree_in [AV.s (AS.ptr p76), AV.s (AS.slice p78 l78 c78 z78), AV.s (AS.ptr (.at g99 o102)), AV.agg cs116, AV.agg cs113] h115 fun r117 h118 => asSl r117 fun p119 l119 c119 z119 => w64 (iAdd r84 (Int.ofNat 1)) fun n120 => self75 (p76, (p119, l119, c119, z119), p79, p81, p83, n120) h118)) (K (AV.s (AS.slice p78 l78 c78 z78)) h74)) (K (AV.s (AS.slice p78 l78 c78 z78)) h74)) (p29, (p31, l31, c31, z31), p32, p34, p36, (Int.ofNat 0)) h27))) (q0, (q1p, q1n, q1c, q1z), q2, (.at g1 0), (.at g3 0), (p25, l25, c25, z25), (Int.ofNat l25), (Int.ofNat 0)) h19)))
def L_quad_Tree_in : Nat → LoopA := fun id => match id with
 | 4 => ⟨AP × (AP × Nat × ACap × Nat) × AP × AP × AP × (AP × Nat × ACap × Nat) × Int × Int, (.pair (EncA.ptr 0) (.pair (EncA.slice 1) (.pair (EncA.ptr 2) (.pair (EncA.ptr 8) (.pair (EncA.ptr 9) (.pair (EncA.slice 29) (.pair (EncA.int .i64 30) (EncA.int .i64 31))))))))⟩
 | 10 => ⟨AP × (AP × Nat × ACap × Nat) × AP × AP × AP × Int, (.pair (EncA.ptr 0) (.pair (EncA.slice 1) (.pair (EncA.ptr 2) (.pair (EncA.ptr 8) (.pair (EncA.ptr 9) (EncA.int .i64 13))))))⟩
 | _ => noA
def R_quad_Tree_in : Nat → RegHint := fun id => match id with
 | 6 => ⟨(.op 0 (.op 1 (.op 2 (.op 3 (.op 4 (.op 5 (.op 6 (.op 7 .nil)))))))), 0, 0, 7, 0⟩
 | 12 => ⟨(.op 0 (.op 1 (.op 2 (.op 3 (.op 4 (.op 5 (.op 6 (.op 7 (.op 8 (.op 9 (.op 10 (.op 12 (.op 11 (.op 13 (.op 14 .nil))))))))))))))), 2048, 4128, 12, 0⟩
 | _ => ⟨.nil, 0, 0, 0, 0⟩
theorem E_quad_Tree_in (lf : Nat) (cl : Cl) : PK.Eq [.ptr, .slice, .ptr, .agg, .agg] (evFn PG cl L_quad_Tree_in R_quad_Tree_in noJ lf Tryz.f267) (B_quad_Tree_in lf cl) := by intro q0 q1p q1n q1c q1z q2 q3 q4 H K; kernel_rfl
theorem O_quad_Tree_in (lf : Nat) (w0 : World) : OkB PG w0 i_quad_Tree_in (PK.run [.ptr, .slice, .ptr, .agg, .agg] (B_quad_Tree_in lf)) := okb mix (fn := Tryz.f267) rfl (E_quad_Tree_in lf)
end
end Go.Proofs
end
section
namespace Go.Proofs
open Go Go.Vw Go.Vw.Ev
set_option maxRecDepth 100000
set_option maxHeartbeats 4000000
set_option linter.unusedVariables false
noncomputable section
def B_cells_Is (lf : Nat) (cl : Cl) (q0 : Int) (H : AH) (K : AV → AH → Bool) : Bool :=
 fB (iLe (Int.ofNat 0) q0) fun b1 => ifA b1 (fB (iLt q0 (Int.ofNat 16)) fun b2 => K (AV.s (AS.bool b2)) H) (K (AV.s (AS.bool false)) H)
theorem E_cells_Is (lf : Nat) (cl : Cl) : PK.Eq [.int .i64] (evFn PG cl noL noR noJ lf Tryz.f109) (B_cells_Is lf cl) := by intro q0 H K; kernel_rfl
theorem O_cells_Is (lf : Nat) (w0 : World) : OkB PG w0 i_cells_Is (PK.run [.int .i64] (B_cells_Is lf)) := okb mix (fn := Tryz.f109) rfl (E_cells_Is lf)
def B_cells_Of (lf : Nat) (cl : Cl) (q0 : List AS) (H : AH) (K : AV → AH → Bool) : Bool :=
 newK H (.row q0) fun g1 h2 => rowK h2 g1 fun cs3 => ldG cs3 0 2 fun cs4 => cl i_geom_On [AV.agg cs4] h2 fun r5 h6 => arB r5 fun b7 => fB (!b7) fun b8 => ifA b8 (K (AV.tup [AV.s (AS.int .i64 (Int.ofNat 0)), AV.s (AS.int .i64 (Int.ofNat 14))]) h6) (rowK h6 g1 fun cs9 => ldI cs9 0 .i64 fun n10 => w64 (Int.tdiv n10 (Int.ofNat 16)) fun n11 => rowK h6 g1 fun cs12 => ldI cs12 1 .i64 fun n13 => w64 (Int.tdiv n13 (Int.ofNat 16)) fun n14 => cl i_cells_at [AV.s (AS.int .i64 n11), AV.s (AS.int .i64 n14)] h6 fun r15 h16 => arI r15 .i64 fun n17 => K (AV.tup [AV.s (AS.int .i64 n17), AV.s (AS.int .i64 (Int.ofNat 0))]) h16)
theorem E_cells_Of (lf : Nat) (cl : Cl) : PK.Eq [.agg] (evFn PG cl noL noR noJ lf Tryz.f112) (B_cells_Of lf cl) := by intro q0 H K; kernel_rfl
theorem O_cells_Of (lf : Nat) (w0 : World) : OkB PG w0 i_cells_Of (PK.run [.agg] (B_cells_Of lf)) := okb mix (fn := Tryz.f112) rfl (E_cells_Of lf)
def B_cells_at (lf : Nat) (cl : Cl) (q0 : Int) (q1 : Int) (H : AH) (K : AV → AH → Bool) : Bool :=
 wrapK .u16 (q0) fun n1 => wrapK .u16 (q1) fun n2 => cl i_morton_Weave [AV.s (AS.int .u16 n1), AV.s (AS.int .u16 n2)] H fun r3 h4 => arI r3 .u32 fun n5 => w64 (n5) fun n6 => K (AV.s (AS.int .i64 n6)) h4
theorem E_cells_at (lf : Nat) (cl : Cl) : PK.Eq [.int .i64, .int .i64] (evFn PG cl noL noR noJ lf Tryz.f172) (B_cells_at lf cl) := by intro q0 q1 H K; kernel_rfl
theorem O_cells_at (lf : Nat) (w0 : World) : OkB PG w0 i_cells_at (PK.run [.int .i64, .int .i64] (B_cells_at lf)) := okb mix (fn := Tryz.f172) rfl (E_cells_at lf)
def B_cells_Rect (lf : Nat) (cl : Cl) (q0 : Int) (H : AH) (K : AV → AH → Bool) : Bool :=
 newK H (.row [AS.int .i64 (Int.ofNat 0), AS.int .i64 (Int.ofNat 0), AS.int .i64 (Int.ofNat 0), AS.int .i64 (Int.ofNat 0)]) fun g1 h2 => cl i_cells_Is [AV.s (AS.int .i64 q0)] h2 fun r3 h4 => arB r3 fun b5 => fB (!b5) fun b6 => ifA b6 (stoN h4 g1 0 4 [AS.int .i64 (Int.ofNat 0), AS.int .i64 (Int.ofNat 0), AS.int .i64 (Int.ofNat 0), AS.int .i64 (Int.ofNat 0)] fun h7 => rowK h7 g1 fun cs8 => ldG cs8 0 4 fun cs9 => K (AV.tup [AV.agg cs9, AV.s (AS.bool false)]) h7) (cl i_cells_place [AV.s (AS.int .i64 q0)] h4 fun r10 h11 => tup2 r10 fun x12 x13 => arI x12 .i64 fun n14 => arI x13 .i64 fun n15 => w64 (iMul n14 (Int.ofNat 16)) fun n16 => w64 (iMul n15 (Int.ofNat 16)) fun n17 => w64 (iAdd n14 (Int.ofNat 1)) fun n18 => w64 (iMul n18 (Int.ofNat 16)) fun n19 => w64 (iAdd n15 (Int.ofNat 1)) fun n20 => w64 (iMul n20 (Int.ofNat 16)) fun n21 => stoN h11 g1 0 4 [AS.int .i64 n16, AS.int .i64 n17, AS.int .i64 n19, AS.int .i64 n21] fun h22 => rowK h22 g1 fun cs23 => ldG cs23 0 4 fun cs24 => K (AV.tup [AV.agg cs24, AV.s (AS.bool true)]) h22)
theorem E_cells_Rect (lf : Nat) (cl : Cl) : PK.Eq [.int .i64] (evFn PG cl noL noR noJ lf Tryz.f253) (B_cells_Rect lf cl) := by intro q0 H K; kernel_rfl
theorem O_cells_Rect (lf : Nat) (w0 : World) : OkB PG w0 i_cells_Rect (PK.run [.int .i64] (B_cells_Rect lf)) := okb mix (fn := Tryz.f253) rfl (E_cells_Rect lf)
def B_cells_place (lf : Nat) (cl : Cl) (q0 : Int) (H : AH) (K : AV → AH → Bool) : Bool :=
 wrapK .u32 (q0) fun n1 => cl i_morton_Split [AV.s (AS.int .u32 n1)] H fun r2 h3 => tup2 r2 fun x4 x5 => arI x4 .u16 fun n6 => arI x5 .u16 fun n7 => w64 (n6) fun n8 => w64 (n7) fun n9 => K (AV.tup [AV.s (AS.int .i64 n8), AV.s (AS.int .i64 n9)]) h3
theorem E_cells_place (lf : Nat) (cl : Cl) : PK.Eq [.int .i64] (evFn PG cl noL noR noJ lf Tryz.f262) (B_cells_place lf cl) := by intro q0 H K; kernel_rfl
theorem O_cells_place (lf : Nat) (w0 : World) : OkB PG w0 i_cells_place (PK.run [.int .i64] (B_cells_place lf)) := okb mix (fn := Tryz.f262) rfl (E_cells_place lf)
end
end Go.Proofs
end
section
namespace Go.Proofs
open Go Go.Vw Go.Vw.Ev
set_option maxRecDepth 100000
set_option maxHeartbeats 4000000
set_option linter.unusedVariables false
noncomputable section
def B_fields_IsField (lf : Nat) (cl : Cl) (q0 : List AS) (H : AH) (K : AV → AH → Bool) : Bool :=
 newK H (.row q0) fun g1 h2 => rowK h2 g1 fun cs3 => ldI cs3 0 .i64 fun n4 => fB (iEq n4 (Int.ofNat 0)) fun b5 => ifA b5 (rowK h2 g1 fun cs6 => ldStr cs6 1 fun s7 => fN (ln s7) fun o8 => fB (iLe (Int.ofNat o8) (Int.ofNat 12)) fun b9 => K (AV.s (AS.bool b9)) h2) (rowK h2 g1 fun cs10 => ldStr cs10 1 fun s11 => fB (sEq s11 []) fun b12 => ifA b12 (rowK h2 g1 fun cs13 => ldStr cs13 1 fun s14 => fN (ln s14) fun o15 => fB (iLe (Int.ofNat o15) (Int.ofNat 12)) fun b16 => K (AV.s (AS.bool b16)) h2) (K (AV.s (AS.bool false)) h2))
theorem E_fields_IsField (lf : Nat) (cl : Cl) : PK.Eq [.agg] (evFn PG cl noL noR noJ lf Tryz.f124) (B_fields_IsField lf cl) := by intro q0 H K; kernel_rfl
theorem O_fields_IsField (lf : Nat) (w0 : World) : OkB PG w0 i_fields_IsField (PK.run [.agg] (B_fields_IsField lf)) := okb mix (fn := Tryz.f124) rfl (E_fields_IsField lf)
end
end Go.Proofs
end
section
namespace Go.Proofs
open Go Go.Vw Go.Vw.Ev
set_option maxRecDepth 100000
set_option maxHeartbeats 4000000
set_option linter.unusedVariables false
noncomputable section
def B_morton_Weave (lf : Nat) (cl : Cl) (q0 : Int) (q1 : Int) (H : AH) (K : AV → AH → Bool) : Bool :=
 wrapK .u32 (q0) fun n1 => cl i_morton_spread [AV.s (AS.int .u32 n1)] H fun r2 h3 => arI r2 .u32 fun n4 => wrapK .u32 (q1) fun n5 => cl i_morton_spread [AV.s (AS.int .u32 n5)] h3 fun r6 h7 => arI r6 .u32 fun n8 => wrapK .u32 (n8 * 2 ^ (min (Int.toNat (Int.ofNat 1)) (IntKind.bits .u32))) fun n9 => wrapK .u32 (BitVec.toNat (BitVec.ofInt (IntKind.bits .u32) n4 ||| BitVec.ofInt (IntKind.bits .u32) n9)) fun n10 => K (AV.s (AS.int .u32 n10)) h7
theorem E_morton_Weave (lf : Nat) (cl : Cl) : PK.Eq [.int .u16, .int .u16] (evFn PG cl noL noR noJ lf Tryz.f214) (B_morton_Weave lf cl) := by intro q0 q1 H K; kernel_rfl
theorem O_morton_Weave (lf : Nat) (w0 : World) : OkB PG w0 i_morton_Weave (PK.run [.int .u16, .int .u16] (B_morton_Weave lf)) := okb mix (fn := Tryz.f214) rfl (E_morton_Weave lf)
def B_morton_spread (lf : Nat) (cl : Cl) (q0 : Int) (H : AH) (K : AV → AH → Bool) : Bool :=
 fL (ap (α := AS) [AS.int .u64 (Int.ofNat 8), AS.int .u32 (Int.ofNat 16711935)] (ap (α := AS) [AS.int .u64 (Int.ofNat 4), AS.int .u32 (Int.ofNat 252645135)] (ap (α := AS) [AS.int .u64 (Int.ofNat 2), AS.int .u32 (Int.ofNat 858993459)] (ap (α := AS) [AS.int .u64 (Int.ofNat 1), AS.int .u32 (Int.ofNat 1431655765)] [])))) fun cs1 => (loopX lf (fun (self4 : (Int × List AS × Int) → AH → Bool) (x2 : Int × List AS × Int) (h3 : AH) => pR x2 fun n5 r6 => pR r6 fun cs7 r8 => fB (iLt r8 (Int.ofNat 4)) fun b10 => ifA b10 (idxK r8 4 fun m11 => fN (Nat.mul m11 2) fun o12 => ldG cs7 o12 2 fun cs13 => newK h3 (.row [AS.int .u64 (Int.ofNat 0), AS.int .u32 (Int.ofNat 0)]) fun g14 h15 => stoN h15 g14 0 2 cs13 fun h16 => rowK h16 g14 fun cs17 => ldI cs17 0 .u64 fun n18 => okK (iLe (Int.ofNat 0) n18) (wrapK .u32 (n5 * 2 ^ (min (Int.toNat n18) (IntKind.bits .u32))) fun n19 => wrapK .u32 (BitVec.toNat (BitVec.ofInt (IntKind.bits .u32) n5 ||| BitVec.ofInt (IntKind.bits .u32) n19)) fun n20 => rowK h16 g14 fun cs21 => ldI cs21 1 .u32 fun n22 => wrapK .u32 (BitVec.toNat (BitVec.ofInt (IntKind.bits .u32) n20 &&& BitVec.ofInt (IntKind.bits .u32) n22)) fun n23 => w64 (iAdd r8 (Int.ofNat 1)) fun n24 => self4 (n23, cs7, n24) h16)) (K (AV.s (AS.int .u32 n5)) h3)) (q0, cs1, (Int.ofNat 0)) H)
def L_morton_spread : Nat → LoopA := fun id => match id with
 | 2 => ⟨Int × List AS × Int, (.pair (EncA.int .u32 0) (.pair (EncA.agg 9) (EncA.int .i64 10)))⟩
 | _ => noA
theorem E_morton_spread (lf : Nat) (cl : Cl) : PK.Eq [.int .u32] (evFn PG cl L_morton_spread noR noJ lf Tryz.f238) (B_morton_spread lf cl) := by intro q0 H K; kernel_rfl
theorem O_morton_spread (lf : Nat) (w0 : World) : OkB PG w0 i_morton_spread (PK.run [.int .u32] (B_morton_spread lf)) := okb mix (fn := Tryz.f238) rfl (E_morton_spread lf)
def B_morton_Split (lf : Nat) (cl : Cl) (q0 : Int) (H : AH) (K : AV → AH → Bool) : Bool :=
 cl i_morton_gather [AV.s (AS.int .u32 q0)] H fun r1 h2 => arI r1 .u32 fun n3 => wrapK .u16 (n3) fun n4 => fI (Int.fdiv q0 (2 ^ (min (Int.toNat (Int.ofNat 1)) (IntKind.bits .u32)))) fun n5 => cl i_morton_gather [AV.s (AS.int .u32 n5)] h2 fun r6 h7 => arI r6 .u32 fun n8 => wrapK .u16 (n8) fun n9 => K (AV.tup [AV.s (AS.int .u16 n4), AV.s (AS.int .u16 n9)]) h7
theorem E_morton_Split (lf : Nat) (cl : Cl) : PK.Eq [.int .u32] (evFn PG cl noL noR noJ lf Tryz.f266) (B_morton_Split lf cl) := by intro q0 H K; kernel_rfl
theorem O_morton_Split (lf : Nat) (w0 : World) : OkB PG w0 i_morton_Split (PK.run [.int .u32] (B_morton_Split lf)) := okb mix (fn := Tryz.f266) rfl (E_morton_Split lf)
def B_morton_gather (lf : Nat) (cl : Cl) (q0 : Int) (H : AH) (K : AV → AH → Bool) : Bool :=
 wrapK .u32 (BitVec.toNat (BitVec.ofInt (IntKind.bits .u32) q0 &&& BitVec.ofInt (IntKind.bits .u32) (Int.ofNat 1431655765))) fun n1 => fL (ap (α := AS) [AS.int .u64 (Int.ofNat 1), AS.int .u32 (Int.ofNat 858993459)] (ap (α := AS) [AS.int .u64 (Int.ofNat 2), AS.int .u32 (Int.ofNat 252645135)] (ap (α := AS) [AS.int .u64 (Int.ofNat 4), AS.int .u32 (Int.ofNat 16711935)] (ap (α := AS) [AS.int .u64 (Int.ofNat 8), AS.int .u32 (Int.ofNat 65535)] [])))) fun cs2 => (loopX lf (fun (self5 : (Int × List AS × Int) → AH → Bool) (x3 : Int × List AS × Int) (h4 : AH) => pR x3 fun n6 r7 => pR r7 fun cs8 r9 => fB (iLt r9 (Int.ofNat 4)) fun b11 => ifA b11 (idxK r9 4 fun m12 => fN (Nat.mul m12 2) fun o13 => ldG cs8 o13 2 fun cs14 => newK h4 (.row [AS.int .u64 (Int.ofNat 0), AS.int .u32 (Int.ofNat 0)]) fun g15 h16 => stoN h16 g15 0 2 cs14 fun h17 => rowK h17 g15 fun cs18 => ldI cs18 0 .u64 fun n19 => okK (iLe (Int.ofNat 0) n19) (fI (Int.fdiv n6 (2 ^ (min (Int.toNat n19) (IntKind.bits .u32)))) fun n20 => wrapK .u32 (BitVec.toNat (BitVec.ofInt (IntKind.bits .u32) n6 ||| BitVec.ofInt (IntKind.bits .u32) n20)) fun n21 => rowK h17 g15 fun cs22 => ldI cs22 1 .u32 fun n23 => wrapK .u32 (BitVec.toNat (BitVec.ofInt (IntKind.bits .u32) n21 &&& BitVec.ofInt (IntKind.bits .u32) n23)) fun n24 => w64 (iAdd r9 (Int.ofNat 1)) fun n25 => self5 (n24, cs8, n25) h17)) (K (AV.s (AS.int .u32 n6)) h4)) (n1, cs2, (Int.ofNat 0)) H)
def L_morton_gather : Nat → LoopA := fun id => match id with
 | 3 => ⟨Int × List AS × Int, (.pair (EncA.int .u32 0) (.pair (EncA.agg 11) (EncA.int .i64 12)))⟩
 | _ => noA
theorem E_morton_gather (lf : Nat) (cl : Cl) : PK.Eq [.int .u32] (evFn PG cl L_morton_gather noR noJ lf Tryz.f268) (B_morton_gather lf cl) := by intro q0 H K; kernel_rfl
theorem O_morton_gather (lf : Nat) (w0 : World) : OkB PG w0 i_morton_gather (PK.run [.int .u32] (B_morton_gather lf)) := okb mix (fn := Tryz.f268) rfl (E_morton_gather lf)
end
end Go.Proofs
end
section
namespace Go.Proofs
open Go Go.Vw Go.Vw.Ev
set_option maxRecDepth 100000
set_option maxHeartbeats 4000000
set_option linter.unusedVariables false
noncomputable section
def B_thing_Same (lf : Nat) (cl : Cl) (q0 : List AS) (q1 : List AS) (H : AH) (K : AV → AH → Bool) : Bool :=
 newK H (.row q0) fun g1 h2 => newK h2 (.row q1) fun g3 h4 => rowK h4 g1 fun cs5 => ldG cs5 0 11 fun cs6 => rowK h4 g3 fun cs7 => ldG cs7 0 11 fun cs8 => okK (leavesA [Leaf.int .i64, Leaf.int .i64, Leaf.int .i64, Leaf.int .i64, Leaf.str, Leaf.int .i64, Leaf.str, Leaf.int .i64, Leaf.str, Leaf.int .i64, Leaf.str] cs6 && leavesA [Leaf.int .i64, Leaf.int .i64, Leaf.int .i64, Leaf.int .i64, Leaf.str, Leaf.int .i64, Leaf.str, Leaf.int .i64, Leaf.str, Leaf.int .i64, Leaf.str] cs8) (fB (cellsEqA cs6 cs8) fun b9 => K (AV.s (AS.bool b9)) h4)
theorem E_thing_Same (lf : Nat) (cl : Cl) : PK.Eq [.agg, .agg] (evFn PG cl noL noR noJ lf Tryz.f42) (B_thing_Same lf cl) := by intro q0 q1 H K; kernel_rfl
theorem O_thing_Same (lf : Nat) (w0 : World) : OkB PG w0 i_thing_Same (PK.run [.agg, .agg] (B_thing_Same lf)) := okb mix (fn := Tryz.f42) rfl (E_thing_Same lf)
def B_thing_Is (lf : Nat) (cl : Cl) (q0 : List AS) (H : AH) (K : AV → AH → Bool) : Bool :=
 newK H (.row q0) fun g1 h2 => rowK h2 g1 fun cs3 => ldI cs3 0 .i64 fun n4 => fB (iLe (Int.ofNat 0) n4) fun b5 => ifA b5 (rowK h2 g1 fun cs6 => ldI cs6 0 .i64 fun n7 => fB (iLe n7 (Int.ofNat 1000000)) fun b8 => ifA b8 (rowK h2 g1 fun cs9 => ldG cs9 1 2 fun cs10 => cl i_geom_On [AV.agg cs10] h2 fun r11 h12 => arB r11 fun b13 => ifA b13 (rowK h12 g1 fun cs14 => okK (Nat.ble (11) (ln cs14)) (slcA (.at g1 3) 4 (.lit 4) 2 0 4 fun p15 l15 c15 z15 => cl i_slices_ContainsFunc_Field [AV.s (AS.slice p15 l15 c15 z15), AV.s (AS.func i_thing_Is_1 [] [])] h12 fun r16 h17 => arB r16 fun b18 => fB (!b18) fun b19 => K (AV.s (AS.bool b19)) h17)) (K (AV.s (AS.bool false)) h12)) (K (AV.s (AS.bool false)) h2)) (K (AV.s (AS.bool false)) h2)
theorem E_thing_Is (lf : Nat) (cl : Cl) : PK.Eq [.agg] (evFn PG cl noL noR noJ lf Tryz.f68) (B_thing_Is lf cl) := by intro q0 H K; kernel_rfl
theorem O_thing_Is (lf : Nat) (w0 : World) : OkB PG w0 i_thing_Is (PK.run [.agg] (B_thing_Is lf)) := okb mix (fn := Tryz.f68) rfl (E_thing_Is lf)
def B_thing_Number (lf : Nat) (cl : Cl) (q0 : Int) (q1 : Int) (H : AH) (K : AV → AH → Bool) : Bool :=
 fI (mxA q1 (Int.ofNat 0)) fun n1 => fI (mnA n1 (Int.ofNat 200000)) fun n2 => w64 (iMul (Int.ofNat 4) n2) fun n3 => fI (mxA q0 (Int.ofNat 0)) fun n4 => fI (mnA n4 (Int.ofNat 3)) fun n5 => w64 (iAdd n3 n5) fun n6 => K (AV.s (AS.int .i64 n6)) H
theorem E_thing_Number (lf : Nat) (cl : Cl) : PK.Eq [.int .i64, .int .i64] (evFn PG cl noL noR noJ lf Tryz.f129) (B_thing_Number lf cl) := by intro q0 q1 H K; kernel_rfl
theorem O_thing_Number (lf : Nat) (w0 : World) : OkB PG w0 i_thing_Number (PK.run [.int .i64, .int .i64] (B_thing_Number lf)) := okb mix (fn := Tryz.f129) rfl (E_thing_Number lf)
def B_thing_Is_1 (lf : Nat) (cl : Cl) (q0 : List AS) (H : AH) (K : AV → AH → Bool) : Bool :=
 newK H (.row q0) fun g1 h2 => rowK h2 g1 fun cs3 => ldG cs3 0 2 fun cs4 => cl i_fields_IsField [AV.agg cs4] h2 fun r5 h6 => arB r5 fun b7 => fB (!b7) fun b8 => K (AV.s (AS.bool b8)) h6
theorem E_thing_Is_1 (lf : Nat) (cl : Cl) : PK.Eq [.agg] (evFn PG cl noL noR noJ lf Tryz.f134) (B_thing_Is_1 lf cl) := by intro q0 H K; kernel_rfl
theorem O_thing_Is_1 (lf : Nat) (w0 : World) : OkB PG w0 i_thing_Is_1 (PK.run [.agg] (B_thing_Is_1 lf)) := okb mix (fn := Tryz.f134) rfl (E_thing_Is_1 lf)
end
end Go.Proofs
end
section
namespace Go.Proofs
open Go Go.Vw Go.Vw.Ev
set_option maxRecDepth 100000
set_option maxHeartbeats 4000000
set_option linter.unusedVariables false
noncomputable section
def B_table_New (lf : Nat) (cl : Cl)  (H : AH) (K : AV → AH → Bool) : Bool :=
 newK H (.imap []) fun g1 h2 => cl i_quad_New [] h2 fun r3 h4 => asP r3 fun p5 => newK h4 (.row [AS.map (some g1), AS.ptr p5]) fun g6 h7 => K (AV.s (AS.ptr (.at g6 0))) h7
theorem E_table_New (lf : Nat) (cl : Cl) : PK.Eq [] (evFn PG cl noL noR noJ lf Tryz.f52) (B_table_New lf cl) := by intro  H K; kernel_rfl
theorem O_table_New (lf : Nat) (w0 : World) : OkB PG w0 i_table_New (PK.run [] (B_table_New lf)) := okb mix (fn := Tryz.f52) rfl (E_table_New lf)
def B_table_Table_Lay (lf : Nat) (cl : Cl) (q0 : AP) (q1 : List AS) (H : AH) (K : AV → AH → Bool) : Bool :=
 newK H (.row q1) fun g1 h2 => joinX (fun (x32 : AP × AP) (h33 : AH) => pR x32 fun p35 r36 => nilK p35 fun g38 o39 => fN (Nat.add o39 0) fun o40 => rowK h33 g38 fun cs41 => ldM cs41 o40 fun r42 => nilK r36 fun g43 o44 => fN (Nat.add o44 0) fun o45 => rowK h33 g43 fun cs46 => ldI cs46 o45 .i64 fun n47 => nilK r36 fun g48 o49 => rowK h33 g48 fun cs50 => ldG cs50 o49 11 fun cs51 => asMp (AV.s (AS.map r42)) fun g55 => mapK h33 g55 fun es52 => fL (setA es52 n47 (AV.agg cs51)) fun es53 => wrK h33 g55 (some (.imap es53)) fun h54 => nilK p35 fun g56 o57 => fN (Nat.add o57 1) fun o58 => rowK h54 g56 fun cs59 => ldP cs59 o58 fun p60 => nilK r36 fun g61 o62 => fN (Nat.add o62 0) fun o63 => rowK h54 g61 fun cs64 => ldI cs64 o63 .i64 fun n65 => nilK r36 fun g66 o67 => fN (Nat.add o67 1) fun o68 => rowK h54 g66 fun cs69 => ldG cs69 o68 2 fun cs70 => cl i_quad_Tree_Lay [AV.s (AS.ptr p60), AV.s (AS.int .i64 n65), AV.agg cs70] h54 fun r71 h72 => tup0 r71 (K (AV.tup []) h72)) fun J34 => nilK q0 fun g3 o4 => fN (Nat.add o4 0) fun o5 => getK h2 g3 fun k6 => rowK h2 g3 fun cs7 => ldM cs7 o5 fun r8 => getK h2 g1 fun k9 => rowK h2 g1 fun cs10 => ldI cs10 0 .i64 fun n11 => asMp (AV.s (AS.map r8)) fun g13 => getK h2 g13 fun k12 => asMp (AV.s (AS.map r8)) fun g17 => mapK h2 g17 fun es14 => lkZ es14 n11 (AV.agg [AS.int .i64 (Int.ofNat 0), AS.int .i64 (Int.ofNat 0), AS.int .i64 (Int.ofNat 0), AS.int .i64 (Int.ofNat 0), AS.str [], AS.int .i64 (Int.ofNat 0), AS.str [], AS.int .i64 (Int.ofNat 0), AS.str [], AS.int .i64 (Int.ofNat 0), AS.str []]) fun v15 b16 => asG v15 fun cs18 => newK h2 (.row [AS.int .i64 (Int.ofNat 0), AS.int .i64 (Int.ofNat 0), AS.int .i64 (Int.ofNat 0), AS.int .i64 (Int.ofNat 0), AS.str [], AS.int .i64 (Int.ofNat 0), AS.str [], AS.int .i64 (Int.ofNat 0), AS.str [], AS.int .i64 (Int.ofNat 0), AS.str []]) fun g19 h20 => stoN h20 g19 0 11 cs18 fun h21 => ifA b16 (nilK q0 fun g22 o23 => fN (Nat.add o23 1) fun o24 => rowK h21 g22 fun cs25 => ldP cs25 o24 fun p26 => rowK h21 g1 fun cs27 => ldI cs27 0 .i64 fun n28 => cl i_quad_Tree_Drop [AV.s (AS.ptr p26), AV.s (AS.int .i64 n28)] h21 fun r29 h30 => arI r29 .i64 fun n31 => J34 (q0, (.at g1 0)) h30) (J34 (q0, (.at g1 0)) h21)
def R_table_Table_Lay : Nat → RegHint := fun id => match id with
 | 1 => ⟨(.op 0 (.op 1 (.op 2 (.op 3 (.op 4 (.op 5 (.op 6 (.op 7 (.op 8 (.op 9 (.op 10 (.op 11 (.op 12 .nil))))))))))))), 1024, 104, 10, 0⟩
 | 3 => ⟨(.op 0 (.op 1 (.op 2 (.op 3 (.op 4 (.op 5 (.op 6 .nil))))))), 0, 0, 6, 0⟩
 | 4 => ⟨(.op 0 (.op 1 (.op 2 (.op 3 (.op 4 (.op 5 (.op 6 (.op 7 .nil)))))))), 0, 0, 7, 0⟩
 | 5 => ⟨(.op 0 (.op 1 (.op 2 (.op 3 (.op 4 (.op 5 (.op 6 (.op 7 (.op 8 .nil))))))))), 0, 0, 8, 0⟩
 | _ => ⟨.nil, 0, 0, 0, 0⟩
def J_table_Table_Lay : Option Nat → Option LoopA := fun id => match id with
 | some 4 => some ⟨AP × AP, (.pair (EncA.ptr 0) (EncA.ptr 3))⟩
 | _ => none
theorem E_table_Table_Lay (lf : Nat) (cl : Cl) : PK.Eq [.ptr, .agg] (evFn PG cl noL R_table_Table_Lay J_table_Table_Lay lf Tryz.f56) (B_table_Table_Lay lf cl) := by intro q0 q1 H K; kernel_rfl
theorem O_table_Table_Lay (lf : Nat) (w0 : World) : OkB PG w0 i_table_Table_Lay (PK.run [.ptr, .agg] (B_table_Table_Lay lf)) := okb mix (fn := Tryz.f56) rfl (E_table_Table_Lay lf)
def B_table_Table_All (lf : Nat) (cl : Cl) (q0 : AP) (H : AH) (K : AV → AH → Bool) : Bool :=
 nilK q0 fun g1 o2 => fN (Nat.add o2 0) fun o3 => rowK H g1 fun cs4 => ldM cs4 o3 fun r5 => cl i_maps_Keys_int_Thing [AV.s (AS.map r5)] H fun r6 h7 => cl i_slices_Sorted_int [r6] h7 fun r8 h9 => asSl r8 fun p10 l10 c10 z10 => cl i_table_Table_of [AV.s (AS.ptr q0), AV.s (AS.slice p10 l10 c10 z10)] h9 fun r11 h12 => asSl r11 fun p13 l13 c13 z13 => K (AV.s (AS.slice p13 l13 c13 z13)) h12
theorem E_table_Table_All (lf : Nat) (cl : Cl) : PK.Eq [.ptr] (evFn PG cl noL noR noJ lf Tryz.f59) (B_table_Table_All lf cl) := by intro q0 H K; kernel_rfl
theorem O_table_Table_All (lf : Nat) (w0 : World) : OkB PG w0 i_table_Table_All (PK.run [.ptr] (B_table_Table_All lf)) := okb mix (fn := Tryz.f59) rfl (E_table_Table_All lf)
def B_table_Table_of (lf : Nat) (cl : Cl) (q0 : AP) (q1p : AP) (q1n : Nat) (q1c : ACap) (q1z : Nat) (H : AH) (K : AV → AH → Bool) : Bool :=
 (loopX lf (fun (self3 : (AP × (AP × Nat × ACap × Nat) × (AP × Nat × ACap × Nat) × Int × Int) → AH → Bool) (x1 : AP × (AP × Nat × ACap × Nat) × (AP × Nat × ACap × Nat) × Int × Int) (h2 : AH) => pR x1 fun p4 r5 => pR r5 fun u6 r6 => pR u6 fun p6 r6a => pR r6a fun l6 r6b => pR r6b fun c6 z6 => pR r6 fun u7 r7 => pR u7 fun p7 r7a => pR r7a fun l7 r7b => pR r7b fun c7 z7 => pR r7 fun n8 r9 => fB (iLt r9 n8) fun b11 => ifA b11 (nilK p7 fun g12 o13 => idxK r9 l7 fun m14 => fN (Nat.add o13 (Nat.mul m14 1)) fun o15 => rowK h2 g12 fun cs16 => ldI cs16 o15 .i64 fun n17 => nilK p4 fun g18 o19 => fN (Nat.add o19 0) fun o20 => rowK h2 g18 fun cs21 => ldM cs21 o20 fun r22 => asMp (AV.s (AS.map r22)) fun g26 => mapK h2 g26 fun es23 => lkZ es23 n17 (AV.agg [AS.int .i64 (Int.ofNat 0), AS.int .i64 (Int.ofNat 0), AS.int .i64 (Int.ofNat 0), AS.int .i64 (Int.ofNat 0), AS.str [], AS.int .i64 (Int.ofNat 0), AS.str [], AS.int .i64 (Int.ofNat 0), AS.str [], AS.int .i64 (Int.ofNat 0), AS.str []]) fun v24 b25 => asG v24 fun cs27 => okK (Nat.beq (ln cs27) 11) (fL (ap (α := AS) cs27 []) fun cs28 => okK (Nat.beq (ln cs28) (1 * 11)) (newK h2 (.row cs28) fun g29 h30 => elK h30 (.at g29 0) 1 11 fun ys31 => appA h30 p6 l6 z6 11 120 ys31 1 c6 fun p33 l33 c33 z33 h32 => w64 (iAdd r9 (Int.ofNat 1)) fun n34 => self3 (p4, (p33, l33, c33, z33), (p7, l7, c7, z7), n8, n34) h32))) (K (AV.s (AS.slice p6 l6 c6 z6)) h2)) (q0, (AP.nil, 0, (.lit 0), 1), (q1p, q1n, q1c, q1z), (Int.ofNat q1n), (Int.ofNat 0)) H)
def L_table_Table_of : Nat → LoopA := fun id => match id with
 | 3 => ⟨AP × (AP × Nat × ACap × Nat) × (AP × Nat × ACap × Nat) × Int × Int, (.pair (EncA.ptr 0) (.pair (EncA.slice 5) (.pair (EncA.slice 8) (.pair (EncA.int .i64 9) (EncA.int .i64 10)))))⟩
 | _ => noA
theorem E_table_Table_of (lf : Nat) (cl : Cl) : PK.Eq [.ptr, .slice] (evFn PG cl L_table_Table_of noR noJ lf Tryz.f115) (B_table_Table_of lf cl) := by intro q0 q1p q1n q1c q1z H K; kernel_rfl
theorem O_table_Table_of (lf : Nat) (w0 : World) : OkB PG w0 i_table_Table_of (PK.run [.ptr, .slice] (B_table_Table_of lf)) := okb mix (fn := Tryz.f115) rfl (E_table_Table_of lf)
def B_table_Table_Drop (lf : Nat) (cl : Cl) (q0 : AP) (q1 : Int) (H : AH) (K : AV → AH → Bool) : Bool :=
 nilK q0 fun g1 o2 => fN (Nat.add o2 0) fun o3 => rowK H g1 fun cs4 => ldM cs4 o3 fun r5 => asMp (AV.s (AS.map r5)) fun g9 => mapK H g9 fun es6 => lkZ es6 q1 (AV.agg [AS.int .i64 (Int.ofNat 0), AS.int .i64 (Int.ofNat 0), AS.int .i64 (Int.ofNat 0), AS.int .i64 (Int.ofNat 0), AS.str [], AS.int .i64 (Int.ofNat 0), AS.str [], AS.int .i64 (Int.ofNat 0), AS.str [], AS.int .i64 (Int.ofNat 0), AS.str []]) fun v7 b8 => asG v7 fun cs10 => newK H (.row [AS.int .i64 (Int.ofNat 0), AS.int .i64 (Int.ofNat 0), AS.int .i64 (Int.ofNat 0), AS.int .i64 (Int.ofNat 0), AS.str [], AS.int .i64 (Int.ofNat 0), AS.str [], AS.int .i64 (Int.ofNat 0), AS.str [], AS.int .i64 (Int.ofNat 0), AS.str []]) fun g11 h12 => stoN h12 g11 0 11 cs10 fun h13 => fB (!b8) fun b14 => ifA b14 (K (AV.s (AS.int .i64 (Int.ofNat 15))) h13) (nilK q0 fun g15 o16 => fN (Nat.add o16 0) fun o17 => rowK h13 g15 fun cs18 => ldM cs18 o17 fun r19 => asMp (AV.s (AS.map r19)) fun g23 => mapK h13 g23 fun es20 => fL (delA es20 q1) fun es21 => wrK h13 g23 (some (.imap es21)) fun h22 => nilK q0 fun g24 o25 => fN (Nat.add o25 1) fun o26 => rowK h22 g24 fun cs27 => ldP cs27 o26 fun p28 => cl i_quad_Tree_Drop [AV.s (AS.ptr p28), AV.s (AS.int .i64 q1)] h22 fun r29 h30 => arI r29 .i64 fun n31 => K (AV.s (AS.int .i64 (Int.ofNat 0))) h30)
theorem E_table_Table_Drop (lf : Nat) (cl : Cl) : PK.Eq [.ptr, .int .i64] (evFn PG cl noL noR noJ lf Tryz.f123) (B_table_Table_Drop lf cl) := by intro q0 q1 H K; kernel_rfl
theorem O_table_Table_Drop (lf : Nat) (w0 : World) : OkB PG w0 i_table_Table_Drop (PK.run [.ptr, .int .i64] (B_table_Table_Drop lf)) := okb mix (fn := Tryz.f123) rfl (E_table_Table_Drop lf)
def B_table_Table_Len (lf : Nat) (cl : Cl) (q0 : AP) (H : AH) (K : AV → AH → Bool) : Bool :=
 nilK q0 fun g1 o2 => fN (Nat.add o2 0) fun o3 => rowK H g1 fun cs4 => ldM cs4 o3 fun r5 => asMp (AV.s (AS.map r5)) fun g7 => mapK H g7 fun es6 => fN (ln es6) fun o8 => K (AV.s (AS.int .i64 (Int.ofNat o8))) H
theorem E_table_Table_Len (lf : Nat) (cl : Cl) : PK.Eq [.ptr] (evFn PG cl noL noR noJ lf Tryz.f163) (B_table_Table_Len lf cl) := by intro q0 H K; kernel_rfl
theorem O_table_Table_Len (lf : Nat) (w0 : World) : OkB PG w0 i_table_Table_Len (PK.run [.ptr] (B_table_Table_Len lf)) := okb mix (fn := Tryz.f163) rfl (E_table_Table_Len lf)
def B_table_Table_Get (lf : Nat) (cl : Cl) (q0 : AP) (q1 : Int) (H : AH) (K : AV → AH → Bool) : Bool :=
 newK H (.row [AS.int .i64 (Int.ofNat 0), AS.int .i64 (Int.ofNat 0), AS.int .i64 (Int.ofNat 0), AS.int .i64 (Int.ofNat 0), AS.str [], AS.int .i64 (Int.ofNat 0), AS.str [], AS.int .i64 (Int.ofNat 0), AS.str [], AS.int .i64 (Int.ofNat 0), AS.str []]) fun g1 h2 => nilK q0 fun g3 o4 => fN (Nat.add o4 0) fun o5 => rowK h2 g3 fun cs6 => ldM cs6 o5 fun r7 => asMp (AV.s (AS.map r7)) fun g11 => mapK h2 g11 fun es8 => lkZ es8 q1 (AV.agg [AS.int .i64 (Int.ofNat 0), AS.int .i64 (Int.ofNat 0), AS.int .i64 (Int.ofNat 0), AS.int .i64 (Int.ofNat 0), AS.str [], AS.int .i64 (Int.ofNat 0), AS.str [], AS.int .i64 (Int.ofNat 0), AS.str [], AS.int .i64 (Int.ofNat 0), AS.str []]) fun v9 b10 => asG v9 fun cs12 => newK h2 (.row [AS.int .i64 (Int.ofNat 0), AS.int .i64 (Int.ofNat 0), AS.int .i64 (Int.ofNat 0), AS.int .i64 (Int.ofNat 0), AS.str [], AS.int .i64 (Int.ofNat 0), AS.str [], AS.int .i64 (Int.ofNat 0), AS.str [], AS.int .i64 (Int.ofNat 0), AS.str []]) fun g13 h14 => stoN h14 g13 0 11 cs12 fun h15 => rowK h15 g13 fun cs16 => ldG cs16 0 11 fun cs17 => stoN h15 g1 0 11 cs17 fun h18 => rowK h18 g1 fun cs19 => ldG cs19 0 11 fun cs20 => K (AV.tup [AV.agg cs20, AV.s (AS.bool b10)]) h18
theorem E_table_Table_Get (lf : Nat) (cl : Cl) : PK.Eq [.ptr, .int .i64] (evFn PG cl noL noR noJ lf Tryz.f183) (B_table_Table_Get lf cl) := by intro q0 q1 H K; kernel_rfl
theorem O_table_Table_Get (lf : Nat) (w0 : World) : OkB PG w0 i_table_Table_Get (PK.run [.ptr, .int .i64] (B_table_Table_Get lf)) := okb mix (fn := Tryz.f183) rfl (E_table_Table_Get lf)
def B_table_Table_Cell (lf : Nat) (cl : Cl) (q0 : AP) (q1 : Int) (H : AH) (K : AV → AH → Bool) : Bool :=
 cl i_cells_Rect [AV.s (AS.int .i64 q1)] H fun r1 h2 => tup2 r1 fun x3 x4 => asG x3 fun cs5 => arB x4 fun b6 => newK h2 (.row [AS.int .i64 (Int.ofNat 0), AS.int .i64 (Int.ofNat 0), AS.int .i64 (Int.ofNat 0), AS.int .i64 (Int.ofNat 0)]) fun g7 h8 => stoN h8 g7 0 4 cs5 fun h9 => fB (!b6) fun b10 => ifA b10 (K (AV.s (AS.slice AP.nil 0 (.lit 0) 1)) h9) (rowK h9 g7 fun cs11 => ldG cs11 0 4 fun cs12 => cl i_table_Table_In [AV.s (AS.ptr q0), AV.agg cs12] h9 fun r13 h14 => asSl r13 fun p15 l15 c15 z15 => K (AV.s (AS.slice p15 l15 c15 z15)) h14)
theorem E_table_Table_Cell (lf : Nat) (cl : Cl) : PK.Eq [.ptr, .int .i64] (evFn PG cl noL noR noJ lf Tryz.f228) (B_table_Table_Cell lf cl) := by intro q0 q1 H K; kernel_rfl
theorem O_table_Table_Cell (lf : Nat) (w0 : World) : OkB PG w0 i_table_Table_Cell (PK.run [.ptr, .int .i64] (B_table_Table_Cell lf)) := okb mix (fn := Tryz.f228) rfl (E_table_Table_Cell lf)
def B_table_Table_In (lf : Nat) (cl : Cl) (q0 : AP) (q1 : List AS) (H : AH) (K : AV → AH → Bool) : Bool :=
 newK H (.row q1) fun g1 h2 => nilK q0 fun g3 o4 => fN (Nat.add o4 1) fun o5 => rowK h2 g3 fun cs6 => ldP cs6 o5 fun p7 => rowK h2 g1 fun cs8 => ldG cs8 0 4 fun cs9 => cl i_quad_Tree_In [AV.s (AS.ptr p7), AV.agg cs9] h2 fun r10 h11 => asSl r10 fun p12 l12 c12 z12 => cl i_table_Table_of [AV.s (AS.ptr q0), AV.s (AS.slice p12 l12 c12 z12)] h11 fun r13 h14 => asSl r13 fun p15 l15 c15 z15 => K (AV.s (AS.slice p15 l15 c15 z15)) h14
def R_table_Table_In : Nat → RegHint := fun id => match id with
 | 1 => ⟨(.op 0 (.op 1 (.op 2 (.op 3 (.op 4 (.op 5 (.op 6 (.op 7 (.op 8 .nil))))))))), 0, 0, 6, 0⟩
 | _ => ⟨.nil, 0, 0, 0, 0⟩
theorem E_table_Table_In (lf : Nat) (cl : Cl) : PK.Eq [.ptr, .agg] (evFn PG cl noL R_table_Table_In noJ lf Tryz.f254) (B_table_Table_In lf cl) := by intro q0 q1 H K; kernel_rfl
theorem O_table_Table_In (lf : Nat) (w0 : World) : OkB PG w0 i_table_Table_In (PK.run [.ptr, .agg] (B_table_Table_In lf)) := okb mix (fn := Tryz.f254) rfl (E_table_Table_In lf)
end
end Go.Proofs
end
section
namespace Go.Proofs
open Go Go.Vw Go.Vw.Ev
set_option maxRecDepth 100000
set_option maxHeartbeats 4000000
set_option linter.unusedVariables false
noncomputable section
def B_cmd_Is (lf : Nat) (cl : Cl) (q0 : List AS) (H : AH) (K : AV → AH → Bool) : Bool :=
 newK H (.row q0) fun g1 h2 => rowK h2 g1 fun cs3 => ldG cs3 6 8 fun cs4 => (loopX lf (fun (self7 : (AP × List AS × Int) → AH → Bool) (x5 : AP × List AS × Int) (h6 : AH) => pR x5 fun p8 r9 => pR r9 fun cs10 r11 => fB (iLt r11 (Int.ofNat 4)) fun b13 => ifA b13 (idxK r11 4 fun m14 => fN (Nat.mul m14 2) fun o15 => ldG cs10 o15 2 fun cs16 => newK h6 (.row [AS.int .i64 (Int.ofNat 0), AS.str []]) fun g17 h18 => stoN h18 g17 0 2 cs16 fun h19 => rowK h19 g17 fun cs20 => ldG cs20 0 2 fun cs21 => cl i_fields_IsField [AV.agg cs21] h19 fun r22 h23 => arB r22 fun b24 => fB (!b24) fun b25 => ifA b25 (K (AV.s (AS.bool false)) h23) (w64 (iAdd r11 (Int.ofNat 1)) fun n26 => self7 (p8, cs10, n26) h23)) (joinX (fun (x56 : AP × Bool) (h57 : AH) => pR x56 fun p59 r60 => joinX (fun (x86 : AP × Bool × Bool) (h87 : AH) => pR x86 fun p89 r90 => pR r90 fun b91 r92 => joinX (fun (x138 : AP × Bool × Bool × Bool) (h139 : AH) => pR x138 fun p141 r142 => pR r142 fun b143 r144 => pR r144 fun b145 r146 => ifA b143 (ifA b145 (ifA r146 (nilK p141 fun g148 o149 => fN (Nat.add o149 4) fun o150 => fN (Nat.add o150 0) fun o151 => rowK h139 g148 fun cs152 => ldI cs152 o151 .i64 fun n153 => nilK p141 fun g154 o155 => fN (Nat.add o155 4) fun o156 => fN (Nat.add o156 1) fun o157 => rowK h139 g154 fun cs158 => ldI cs158 o157 .i64 fun n159 => nilK p141 fun g160 o161 => fN (Nat.add o161 18) fun o162 => fN (Nat.add o162 0) fun o163 => rowK h139 g160 fun cs164 => ldI cs164 o163 .i64 fun n165 => nilK p141 fun g166 o167 => fN (Nat.add o167 18) fun o168 => fN (Nat.add o168 1) fun o169 => rowK h139 g166 fun cs170 => ldI cs170 o169 .i64 fun n171 => nilK p141 fun g172 o173 => fN (Nat.add o173 18) fun o174 => fN (Nat.add o174 2) fun o175 => rowK h139 g172 fun cs176 => ldI cs176 o175 .i64 fun n177 => nilK p141 fun g178 o179 => fN (Nat.add o179 18) fun o180 => fN (Nat.add o180 3) fun o181 => rowK h139 g178 fun cs182 => ldI cs182 o181 .i64 fun n183 => newK h139 (.row [AS.int .i64 n153, AS.int .i64 n159, AS.int .i64 n165, AS.int .i64 n171, AS.int .i64 n177, AS.int .i64 n183]) fun g184 h185 => cl i_cmd_near [AV.s (AS.slice (.at g184 0) 6 (.lit 6) 1)] h185 fun r186 h187 => arB r186 fun b188 => K (AV.s (AS.bool b188)) h187) (K (AV.s (AS.bool false)) h139)) (K (AV.s (AS.bool false)) h139)) (K (AV.s (AS.bool false)) h139)) fun J140 => nilK p89 fun g94 o95 => fN (Nat.add o95 1) fun o96 => rowK h87 g94 fun cs97 => ldI cs97 o96 .i64 fun n98 => fB (iLe (Int.ofNat 0) n98) fun b99 => ifA b99 (nilK p89 fun g100 o101 => fN (Nat.add o101 1) fun o102 => rowK h87 g100 fun cs103 => ldI cs103 o102 .i64 fun n104 => fB (iLe n104 (Int.ofNat 1000000)) fun b105 => ifA b105 (nilK p89 fun g106 o107 => fN (Nat.add o107 2) fun o108 => rowK h87 g106 fun cs109 => ldI cs109 o108 .i64 fun n110 => fB (iLe (Int.negSucc 0) n110) fun b111 => ifA b111 (nilK p89 fun g112 o113 => fN (Nat.add o113 2) fun o114 => rowK h87 g112 fun cs115 => ldI cs115 o114 .i64 fun n116 => fB (iLe n116 (Int.ofNat 100)) fun b117 => ifA b117 (nilK p89 fun g118 o119 => fN (Nat.add o119 3) fun o120 => rowK h87 g118 fun cs121 => ldI cs121 o120 .i64 fun n122 => fB (iLe (Int.negSucc 0) n122) fun b123 => ifA b123 (nilK p89 fun g124 o125 => fN (Nat.add o125 3) fun o126 => rowK h87 g124 fun cs127 => ldI cs127 o126 .i64 fun n128 => fB (iLe n128 (Int.ofNat 100)) fun b129 => ifA b129 (nilK p89 fun g130 o131 => fN (Nat.add o131 14) fun o132 => rowK h87 g130 fun cs133 => ldG cs133 o132 2 fun cs134 => cl i_fields_IsField [AV.agg cs134] h87 fun r135 h136 => arB r135 fun b137 => J140 (p89, b91, r92, b137) h136) (J140 (p89, b91, r92, false) h87)) (J140 (p89, b91, r92, false) h87)) (J140 (p89, b91, r92, false) h87)) (J140 (p89, b91, r92, false) h87)) (J140 (p89, b91, r92, false) h87)) (J140 (p89, b91, r92, false) h87)) fun J88 => nilK p59 fun g62 o63 => fN (Nat.add o63 16) fun o64 => rowK h57 g62 fun cs65 => ldI cs65 o64 .i64 fun n66 => fB (iLe (Int.ofNat 0) n66) fun b67 => ifA b67 (nilK p59 fun g68 o69 => fN (Nat.add o69 16) fun o70 => rowK h57 g68 fun cs71 => ldI cs71 o70 .i64 fun n72 => fB (iLt n72 (Int.ofNat 4)) fun b73 => ifA b73 (nilK p59 fun g74 o75 => fN (Nat.add o75 17) fun o76 => rowK h57 g74 fun cs77 => ldI cs77 o76 .i64 fun n78 => fB (iLe (Int.ofNat 0) n78) fun b79 => ifA b79 (nilK p59 fun g80 o81 => fN (Nat.add o81 17) fun o82 => rowK h57 g80 fun cs83 => ldI cs83 o82 .i64 fun n84 => fB (iLe n84 (Int.ofNat 1000000)) fun b85 => J88 (p59, r60, b85) h57) (J88 (p59, r60, false) h57)) (J88 (p59, r60, false) h57)) (J88 (p59, r60, false) h57)) fun J58 => nilK p8 fun g27 o28 => fN (Nat.add o28 0) fun o29 => rowK h6 g27 fun cs30 => ldI cs30 o29 .i64 fun n31 => fB (iLe (Int.ofNat 1) n31) fun b32 => ifA b32 (nilK p8 fun g33 o34 => fN (Nat.add o34 0) fun o35 => rowK h6 g33 fun cs36 => ldI cs36 o35 .i64 fun n37 => fB (iLe n37 (Int.ofNat 8)) fun b38 => ifA b38 (nilK p8 fun g40 o41 => getK h6 g40 fun k39 => nilK p8 fun g42 o43 => rowK h6 g42 fun cs44 => ldG cs44 o43 22 fun cs45 => nilK p8 fun g46 o47 => rowK h6 g46 fun cs48 => ldG cs48 o47 22 fun cs49 => cl i_cmd_core [AV.agg cs49] h6 fun r50 h51 => okK (kSame ((g40, k39) :: []) h51) (asG r50 fun cs52 => okK (leavesA [Leaf.int .i64, Leaf.int .i64, Leaf.int .i64, Leaf.int .i64, Leaf.int .i64, Leaf.int .i64, Leaf.int .i64, Leaf.str, Leaf.int .i64, Leaf.str, Leaf.int .i64, Leaf.str, Leaf.int .i64, Leaf.str, Leaf.int .i64, Leaf.str, Leaf.int .i64, Leaf.int .i64, Leaf.int .i64, Leaf.int .i64, Leaf.int .i64, Leaf.int .i64] cs45 && leavesA [Leaf.int .i64, Leaf.int .i64, Leaf.int .i64, Leaf.int .i64, Leaf.int .i64, Leaf.int .i64, Leaf.int .i64, Leaf.str, Leaf.int .i64, Leaf.str, Leaf.int .i64, Leaf.str, Leaf.int .i64, Leaf.str, Leaf.int .i64, Leaf.str, Leaf.int .i64, Leaf.int .i64, Leaf.int .i64, Leaf.int .i64, Leaf.int .i64, Leaf.int .i64] cs52) (fB (cellsEqA cs45 cs52) fun b53 => J58 (p8, b53) h51))) (J58 (p8, false) h6)) (J58 (p8, false) h6))) ((.at g1 0), cs4, (Int.ofNat 0)) h2)
def L_cmd_Is : Nat → LoopA := fun id => match id with
 | 2 => ⟨AP × List AS × Int, (.pair (EncA.ptr 1) (.pair (EncA.agg 9) (EncA.int .i64 10)))⟩
 | _ => noA
def R_cmd_Is : Nat → RegHint := fun id => match id with
 | 7 => ⟨(.op 0 (.op 1 (.op 2 (.op 3 (.op 4 (.op 5 (.op 6 (.op 7 (.op 8 (.op 9 (.op 10 (.op 11 (.op 12 (.op 13 (.op 14 .nil))))))))))))))), 2048, 512, 11, 0⟩
 | _ => ⟨.nil, 0, 0, 0, 0⟩
def J_cmd_Is : Option Nat → Option LoopA := fun id => match id with
 | some 8 => some ⟨AP × Bool, (.pair (EncA.ptr 1) (EncA.bool 5))⟩
 | some 9 => some ⟨AP × Bool × Bool, (.pair (EncA.ptr 1) (.pair (EncA.bool 5) (EncA.bool 6)))⟩
 | some 10 => some ⟨AP × Bool × Bool × Bool, (.pair (EncA.ptr 1) (.pair (EncA.bool 5) (.pair (EncA.bool 6) (EncA.bool 7))))⟩
 | _ => none
theorem E_cmd_Is (lf : Nat) (cl : Cl) : PK.Eq [.agg] (evFn PG cl L_cmd_Is R_cmd_Is J_cmd_Is lf Tryz.f62) (B_cmd_Is lf cl) := by intro q0 H K; kernel_rfl
theorem O_cmd_Is (lf : Nat) (w0 : World) : OkB PG w0 i_cmd_Is (PK.run [.agg] (B_cmd_Is lf)) := okb mix (fn := Tryz.f62) rfl (E_cmd_Is lf)
def B_cmd_Watches (lf : Nat) (cl : Cl) (q0 : List AS) (H : AH) (K : AV → AH → Bool) : Bool :=
 newK H (.row q0) fun g1 h2 => rowK h2 g1 fun cs3 => ldI cs3 0 .i64 fun n4 => fB (iLe (Int.ofNat 6) n4) fun b5 => ifA b5 (rowK h2 g1 fun cs6 => ldI cs6 0 .i64 fun n7 => fB (iLe n7 (Int.ofNat 8)) fun b8 => K (AV.s (AS.bool b8)) h2) (K (AV.s (AS.bool false)) h2)
theorem E_cmd_Watches (lf : Nat) (cl : Cl) : PK.Eq [.agg] (evFn PG cl noL noR noJ lf Tryz.f63) (B_cmd_Watches lf cl) := by intro q0 H K; kernel_rfl
theorem O_cmd_Watches (lf : Nat) (w0 : World) : OkB PG w0 i_cmd_Watches (PK.run [.agg] (B_cmd_Watches lf)) := okb mix (fn := Tryz.f63) rfl (E_cmd_Watches lf)
def B_cmd_core (lf : Nat) (cl : Cl) (q0 : List AS) (H : AH) (K : AV → AH → Bool) : Bool :=
 newK H (.row q0) fun g1 h2 => newK h2 (.row [AS.int .i64 (Int.ofNat 0), AS.int .i64 (Int.ofNat 0), AS.int .i64 (Int.ofNat 0), AS.int .i64 (Int.ofNat 0), AS.int .i64 (Int.ofNat 0), AS.int .i64 (Int.ofNat 0), AS.int .i64 (Int.ofNat 0), AS.str [], AS.int .i64 (Int.ofNat 0), AS.str [], AS.int .i64 (Int.ofNat 0), AS.str [], AS.int .i64 (Int.ofNat 0), AS.str [], AS.int .i64 (Int.ofNat 0), AS.str [], AS.int .i64 (Int.ofNat 0), AS.int .i64 (Int.ofNat 0), AS.int .i64 (Int.ofNat 0), AS.int .i64 (Int.ofNat 0), AS.int .i64 (Int.ofNat 0), AS.int .i64 (Int.ofNat 0)]) fun g3 h4 => rowK h4 g1 fun cs5 => ldI cs5 0 .i64 fun n6 => rowK h4 g1 fun cs7 => ldI cs7 16 .i64 fun n8 => rowK h4 g1 fun cs9 => ldI cs9 17 .i64 fun n10 => newK h4 (.row [AS.int .i64 (Int.ofNat 0), AS.int .i64 (Int.ofNat 0), AS.int .i64 (Int.ofNat 0), AS.int .i64 (Int.ofNat 0), AS.int .i64 (Int.ofNat 0), AS.int .i64 (Int.ofNat 0), AS.int .i64 (Int.ofNat 0), AS.str [], AS.int .i64 (Int.ofNat 0), AS.str [], AS.int .i64 (Int.ofNat 0), AS.str [], AS.int .i64 (Int.ofNat 0), AS.str [], AS.int .i64 (Int.ofNat 0), AS.str [], AS.int .i64 (Int.ofNat 0), AS.int .i64 (Int.ofNat 0), AS.int .i64 (Int.ofNat 0), AS.int .i64 (Int.ofNat 0), AS.int .i64 (Int.ofNat 0), AS.int .i64 (Int.ofNat 0)]) fun g11 h12 => stoN h12 g11 0 22 [AS.int .i64 n6, AS.int .i64 (Int.ofNat 0), AS.int .i64 (Int.ofNat 0), AS.int .i64 (Int.ofNat 0), AS.int .i64 (Int.ofNat 0), AS.int .i64 (Int.ofNat 0), AS.int .i64 (Int.ofNat 0), AS.str [], AS.int .i64 (Int.ofNat 0), AS.str [], AS.int .i64 (Int.ofNat 0), AS.str [], AS.int .i64 (Int.ofNat 0), AS.str [], AS.int .i64 (Int.ofNat 0), AS.str [], AS.int .i64 n8, AS.int .i64 n10, AS.int .i64 (Int.ofNat 0), AS.int .i64 (Int.ofNat 0), AS.int .i64 (Int.ofNat 0), AS.int .i64 (Int.ofNat 0)] fun h13 => rowK h13 g1 fun cs14 => ldI cs14 0 .i64 fun n15 => fB (iEq n15 (Int.ofNat 1)) fun b16 => ifA b16 (rowK h13 g1 fun cs17 => ldG cs17 4 2 fun cs18 => getK h13 g1 fun k19 => rowK h13 g1 fun cs20 => ldG cs20 6 8 fun cs21 => okK (!kHas ((g1, k19) :: []) g11 && kSame ((g1, k19) :: []) h13) (stoN h13 g11 4 2 cs18 fun h22 => stoN h22 g11 6 8 cs21 fun h23 => rowK h23 g11 fun cs77 => ldG cs77 0 22 fun cs78 => stoN h23 g3 0 22 cs78 fun h79 => rowK h79 g3 fun cs80 => ldG cs80 0 22 fun cs81 => K (AV.agg cs81) h79)) (fB (iEq n15 (Int.ofNat 2)) fun b24 => ifA b24 (rowK h13 g1 fun cs25 => ldI cs25 1 .i64 fun n26 => getK h13 g1 fun k27 => rowK h13 g1 fun cs28 => ldG cs28 4 2 fun cs29 => okK (!kHas ((g1, k27) :: []) g11 && kSame ((g1, k27) :: []) h13) (sto1 h13 g11 1 (AS.int .i64 n26) fun h30 => stoN h30 g11 4 2 cs29 fun h31 => rowK h31 g11 fun cs82 => ldG cs82 0 22 fun cs83 => stoN h31 g3 0 22 cs83 fun h84 => rowK h84 g3 fun cs85 => ldG cs85 0 22 fun cs86 => K (AV.agg cs86) h84)) (fB (iEq n15 (Int.ofNat 3)) fun b32 => ifA b32 (rowK h13 g1 fun cs33 => ldI cs33 1 .i64 fun n34 => getK h13 g1 fun k35 => rowK h13 g1 fun cs36 => ldI cs36 2 .i64 fun n37 => getK h13 g1 fun k38 => rowK h13 g1 fun cs39 => ldG cs39 14 2 fun cs40 => okK (!kHas ((g1, k38) :: ((g1, k35) :: [])) g11 && kSame ((g1, k38) :: ((g1, k35) :: [])) h13) (sto1 h13 g11 1 (AS.int .i64 n34) fun h41 => okK (!kHas ((g1, k38) :: ((g1, k35) :: [])) g11 && kSame ((g1, k38) :: ((g1, k35) :: [])) h41) (sto1 h41 g11 2 (AS.int .i64 n37) fun h42 => stoN h42 g11 14 2 cs40 fun h43 => rowK h43 g11 fun cs87 => ldG cs87 0 22 fun cs88 => stoN h43 g3 0 22 cs88 fun h89 => rowK h89 g3 fun cs90 => ldG cs90 0 22 fun cs91 => K (AV.agg cs91) h89))) (fB (iEq n15 (Int.ofNat 4)) fun b44 => ifA b44 (rowK h13 g1 fun cs45 => ldI cs45 1 .i64 fun n46 => sto1 h13 g11 1 (AS.int .i64 n46) fun h47 => rowK h47 g11 fun cs92 => ldG cs92 0 22 fun cs93 => stoN h47 g3 0 22 cs93 fun h94 => rowK h94 g3 fun cs95 => ldG cs95 0 22 fun cs96 => K (AV.agg cs96) h94) (fB (iEq n15 (Int.ofNat 5)) fun b48 => ifA b48 (rowK h13 g1 fun cs49 => ldI cs49 2 .i64 fun n50 => getK h13 g1 fun k51 => rowK h13 g1 fun cs52 => ldI cs52 3 .i64 fun n53 => okK (!kHas ((g1, k51) :: []) g11 && kSame ((g1, k51) :: []) h13) (sto1 h13 g11 2 (AS.int .i64 n50) fun h54 => sto1 h54 g11 3 (AS.int .i64 n53) fun h55 => rowK h55 g11 fun cs97 => ldG cs97 0 22 fun cs98 => stoN h55 g3 0 22 cs98 fun h99 => rowK h99 g3 fun cs100 => ldG cs100 0 22 fun cs101 => K (AV.agg cs101) h99)) (joinX (fun (x58 : AP × AP × AP × Bool) (h59 : AH) => pR x58 fun p61 r62 => pR r62 fun p63 r64 => pR r64 fun p65 r66 => ifA r66 (nilK p61 fun g68 o69 => fN (Nat.add o69 18) fun o70 => rowK h59 g68 fun cs71 => ldG cs71 o70 4 fun cs72 => nilK p65 fun g73 o74 => fN (Nat.add o74 18) fun o75 => stoN h59 g73 o75 4 cs72 fun h76 => nilK p65 fun g102 o103 => rowK h76 g102 fun cs104 => ldG cs104 o103 22 fun cs105 => nilK p63 fun g106 o107 => stoN h76 g106 o107 22 cs105 fun h108 => nilK p63 fun g110 o111 => rowK h108 g110 fun cs109 => ldG cs109 o111 22 fun cs112 => K (AV.agg cs112) h108) (nilK p65 fun g113 o114 => rowK h59 g113 fun cs115 => ldG cs115 o114 22 fun cs116 => nilK p63 fun g117 o118 => stoN h59 g117 o118 22 cs116 fun h119 => nilK p63 fun g121 o122 => rowK h119 g121 fun cs120 => ldG cs120 o122 22 fun cs123 => K (AV.agg cs123) h119)) fun J60 => fB (iEq n15 (Int.ofNat 6)) fun b56 => ifA b56 (J60 ((.at g1 0), (.at g3 0), (.at g11 0), b56) h13) (fB (iEq n15 (Int.ofNat 7)) fun b57 => J60 ((.at g1 0), (.at g3 0), (.at g11 0), b57) h13))))))
def R_cmd_core : Nat → RegHint := fun id => match id with
 | 4 => ⟨(.op 0 (.op 1 (.op 2 (.op 3 (.op 4 (.op 5 (.op 6 (.op 7 .nil)))))))), 32, 8, 5, 0⟩
 | 6 => ⟨(.op 0 (.op 1 (.op 2 (.op 3 (.op 4 (.op 5 (.op 6 (.op 7 .nil)))))))), 32, 8, 5, 0⟩
 | 8 => ⟨(.op 0 (.op 1 (.op 2 (.op 3 (.op 4 (.op 5 (.op 6 (.op 7 (.op 8 (.op 9 (.op 10 (.op 11 .nil)))))))))))), 640, 40, 7, 0⟩
 | 12 => ⟨(.op 0 (.op 1 (.op 2 (.op 3 (.op 4 (.op 5 (.op 6 (.op 7 .nil)))))))), 32, 8, 5, 0⟩
 | _ => ⟨.nil, 0, 0, 0, 0⟩
def J_cmd_core : Option Nat → Option LoopA := fun id => match id with
 | some 15 => some ⟨AP × AP × AP × Bool, (.pair (EncA.ptr 1) (.pair (EncA.ptr 2) (.pair (EncA.ptr 3) (EncA.bool 53))))⟩
 | _ => none
theorem E_cmd_core (lf : Nat) (cl : Cl) : PK.Eq [.agg] (evFn PG cl noL R_cmd_core J_cmd_core lf Tryz.f125) (B_cmd_core lf cl) := by intro q0 H K; kernel_rfl
theorem O_cmd_core (lf : Nat) (w0 : World) : OkB PG w0 i_cmd_core (PK.run [.agg] (B_cmd_core lf)) := okb mix (fn := Tryz.f125) rfl (E_cmd_core lf)
def B_cmd_near (lf : Nat) (cl : Cl) (q0p : AP) (q0n : Nat) (q0c : ACap) (q0z : Nat) (H : AH) (K : AV → AH → Bool) : Bool :=
 (loopX lf (fun (self3 : ((AP × Nat × ACap × Nat) × Int × Int) → AH → Bool) (x1 : (AP × Nat × ACap × Nat) × Int × Int) (h2 : AH) => pR x1 fun u4 r4 => pR u4 fun p4 r4a => pR r4a fun l4 r4b => pR r4b fun c4 z4 => pR r4 fun n5 r6 => fB (iLt r6 n5) fun b8 => ifA b8 (nilK p4 fun g9 o10 => idxK r6 l4 fun m11 => fN (Nat.add o10 (Nat.mul m11 1)) fun o12 => rowK h2 g9 fun cs13 => ldI cs13 o12 .i64 fun n14 => fB (iLe (Int.negSucc 999) n14) fun b15 => ifA b15 (fB (iLe n14 (Int.ofNat 1000)) fun b16 => ifA b16 (w64 (iAdd r6 (Int.ofNat 1)) fun n17 => self3 ((p4, l4, c4, z4), n5, n17) h2) (K (AV.s (AS.bool false)) h2)) (K (AV.s (AS.bool false)) h2)) (K (AV.s (AS.bool true)) h2)) ((q0p, q0n, q0c, q0z), (Int.ofNat q0n), (Int.ofNat 0)) H)
def L_cmd_near : Nat → LoopA := fun id => match id with
 | 2 => ⟨(AP × Nat × ACap × Nat) × Int × Int, (.pair (EncA.slice 5) (.pair (EncA.int .i64 6) (EncA.int .i64 7)))⟩
 | _ => noA
theorem E_cmd_near (lf : Nat) (cl : Cl) : PK.Eq [.slice] (evFn PG cl L_cmd_near noR noJ lf Tryz.f126) (B_cmd_near lf cl) := by intro q0p q0n q0c q0z H K; kernel_rfl
theorem O_cmd_near (lf : Nat) (w0 : World) : OkB PG w0 i_cmd_near (PK.run [.slice] (B_cmd_near lf)) := okb mix (fn := Tryz.f126) rfl (E_cmd_near lf)
end
end Go.Proofs
end
section
namespace Go.Proofs
open Go Go.Vw Go.Vw.Ev
set_option maxRecDepth 100000
set_option maxHeartbeats 4000000
set_option linter.unusedVariables false
noncomputable section
def B_act_Check (lf : Nat) (cl : Cl) (q0 : AP) (q1 : List AS) (H : AH) (K : AV → AH → Bool) : Bool :=
 newK H (.row q1) fun g1 h2 => rowK h2 g1 fun cs3 => ldG cs3 0 22 fun cs4 => cl i_cmd_Is [AV.agg cs4] h2 fun r5 h6 => arB r5 fun b7 => fB (!b7) fun b8 => ifA b8 (K (AV.s (AS.int .i64 (Int.ofNat 11))) h6) (rowK h6 g1 fun cs9 => ldI cs9 0 .i64 fun n10 => fB (iLt (Int.ofNat 4) n10) fun b11 => ifA b11 (K (AV.s (AS.int .i64 (Int.ofNat 11))) h6) (rowK h6 g1 fun cs12 => ldI cs12 1 .i64 fun n13 => cl i_table_Table_Get [AV.s (AS.ptr q0), AV.s (AS.int .i64 n13)] h6 fun r14 h15 => tup2 r14 fun x16 x17 => asG x16 fun cs18 => arB x17 fun b19 => newK h15 (.row [AS.int .i64 (Int.ofNat 0), AS.int .i64 (Int.ofNat 0), AS.int .i64 (Int.ofNat 0), AS.int .i64 (Int.ofNat 0), AS.str [], AS.int .i64 (Int.ofNat 0), AS.str [], AS.int .i64 (Int.ofNat 0), AS.str [], AS.int .i64 (Int.ofNat 0), AS.str []]) fun g20 h21 => stoN h21 g20 0 11 cs18 fun h22 => rowK h22 g1 fun cs23 => ldG cs23 4 2 fun cs24 => cl i_cells_Of [AV.agg cs24] h22 fun r25 h26 => tup2 r25 fun x27 x28 => arI x27 .i64 fun n29 => arI x28 .i64 fun n30 => joinX (fun (x35 : AP × AP × AP × Bool × Int × Bool) (h36 : AH) => pR x35 fun p38 r39 => pR r39 fun p40 r41 => pR r41 fun p42 r43 => pR r43 fun b44 r45 => pR r45 fun n46 r47 => ifA r47 (K (AV.s (AS.int .i64 n46)) h36) (joinX (fun (x67 : AP × AP × AP × Bool × Int × Bool) (h68 : AH) => pR x67 fun p70 r71 => pR r71 fun p72 r73 => pR r73 fun p74 r75 => pR r75 fun b76 r77 => pR r77 fun n78 r79 => ifA r79 (K (AV.s (AS.int .i64 (Int.ofNat 16))) h68) (nilK p72 fun g81 o82 => fN (Nat.add o82 0) fun o83 => rowK h68 g81 fun cs84 => ldI cs84 o83 .i64 fun n85 => fB (iEq n85 (Int.ofNat 1)) fun b86 => ifA b86 (K (AV.s (AS.int .i64 (Int.ofNat 0))) h68) (fB (!b76) fun b87 => ifA b87 (K (AV.s (AS.int .i64 (Int.ofNat 15))) h68) (joinX (fun (x95 : AP × AP × AP × Int × Bool) (h96 : AH) => pR x95 fun p98 r99 => pR r99 fun p100 r101 => pR r101 fun p102 r103 => pR r103 fun n104 r105 => ifA r105 (K (AV.s (AS.int .i64 n104)) h96) (joinX (fun (x134 : AP × Bool) (h135 : AH) => pR x134 fun p137 r138 => ifA r138 (K (AV.s (AS.int .i64 (Int.ofNat 16))) h135) (nilK p137 fun g140 o141 => fN (Nat.add o141 0) fun o142 => rowK h135 g140 fun cs143 => ldI cs143 o142 .i64 fun n144 => fB (iEq n144 (Int.ofNat 3)) fun b145 => ifA b145 (nilK p137 fun g146 o147 => fN (Nat.add o147 2) fun o148 => rowK h135 g146 fun cs149 => ldI cs149 o148 .i64 fun n150 => fB (iLt n150 (Int.ofNat 0)) fun b151 => ifA b151 (K (AV.s (AS.int .i64 (Int.ofNat 18))) h135) (nilK p137 fun g152 o153 => fN (Nat.add o153 2) fun o154 => rowK h135 g152 fun cs155 => ldI cs155 o154 .i64 fun n156 => fB (iLe (Int.ofNat 4) n156) fun b157 => ifA b157 (K (AV.s (AS.int .i64 (Int.ofNat 18))) h135) (K (AV.s (AS.int .i64 (Int.ofNat 0))) h135))) (K (AV.s (AS.int .i64 (Int.ofNat 0))) h135))) fun J136 => nilK p100 fun g107 o108 => fN (Nat.add o108 0) fun o109 => rowK h96 g107 fun cs110 => ldI cs110 o109 .i64 fun n111 => fB (iEq n111 (Int.ofNat 2)) fun b112 => ifA b112 (nilK p102 fun g113 o114 => fN (Nat.add o114 1) fun o115 => rowK h96 g113 fun cs116 => ldG cs116 o115 2 fun cs117 => nilK p100 fun g118 o119 => fN (Nat.add o119 4) fun o120 => rowK h96 g118 fun cs121 => ldG cs121 o120 2 fun cs122 => cl i_act_away [AV.agg cs117, AV.agg cs122] h96 fun r123 h124 => arB r123 fun b125 => ifA b125 (nilK p100 fun g126 o127 => fN (Nat.add o127 4) fun o128 => rowK h124 g126 fun cs129 => ldG cs129 o128 2 fun cs130 => cl i_act_full [AV.s (AS.ptr p98), AV.agg cs130] h124 fun r131 h132 => arB r131 fun b133 => J136 (p100, b133) h132) (J136 (p100, false) h124)) (J136 (p100, false) h96))) fun J97 => nilK p72 fun g88 o89 => fN (Nat.add o89 0) fun o90 => rowK h68 g88 fun cs91 => ldI cs91 o90 .i64 fun n92 => fB (iEq n92 (Int.ofNat 2)) fun b93 => ifA b93 (fB (!iEq n78 (Int.ofNat 0)) fun b94 => J97 (p70, p72, p74, n78, b94) h68) (J97 (p70, p72, p74, n78, false) h68))))) fun J69 => nilK p40 fun g49 o50 => fN (Nat.add o50 0) fun o51 => rowK h36 g49 fun cs52 => ldI cs52 o51 .i64 fun n53 => fB (iEq n53 (Int.ofNat 1)) fun b54 => ifA b54 (cl i_table_Table_Len [AV.s (AS.ptr p38)] h36 fun r55 h56 => arI r55 .i64 fun n57 => fB (iLe (Int.ofNat 200) n57) fun b58 => ifA b58 (J69 (p38, p40, p42, b44, n46, true) h56) (nilK p40 fun g59 o60 => fN (Nat.add o60 4) fun o61 => rowK h56 g59 fun cs62 => ldG cs62 o61 2 fun cs63 => cl i_act_full [AV.s (AS.ptr p38), AV.agg cs63] h56 fun r64 h65 => arB r64 fun b66 => J69 (p38, p40, p42, b44, n46, b66) h65)) (J69 (p38, p40, p42, b44, n46, false) h36))) fun J37 => rowK h26 g1 fun cs31 => ldI cs31 0 .i64 fun n32 => fB (iEq n32 (Int.ofNat 1)) fun b33 => ifA b33 (fB (!iEq n30 (Int.ofNat 0)) fun b34 => J37 (q0, (.at g1 0), (.at g20 0), b19, n30, b34) h26) (J37 (q0, (.at g1 0), (.at g20 0), b19, n30, false) h26)))
def J_act_Check : Option Nat → Option LoopA := fun id => match id with
 | some 6 => some ⟨AP × AP × AP × Bool × Int × Bool, (.pair (EncA.ptr 0) (.pair (EncA.ptr 3) (.pair (EncA.ptr 5) (.pair (EncA.bool 6) (.pair (EncA.int .i64 8) (EncA.bool 30))))))⟩
 | some 8 => some ⟨AP × AP × AP × Bool × Int × Bool, (.pair (EncA.ptr 0) (.pair (EncA.ptr 3) (.pair (EncA.ptr 5) (.pair (EncA.bool 6) (.pair (EncA.int .i64 8) (EncA.bool 39))))))⟩
 | some 14 => some ⟨AP × AP × AP × Int × Bool, (.pair (EncA.ptr 0) (.pair (EncA.ptr 3) (.pair (EncA.ptr 5) (.pair (EncA.int .i64 8) (EncA.bool 61)))))⟩
 | some 16 => some ⟨AP × Bool, (.pair (EncA.ptr 3) (EncA.bool 70))⟩
 | _ => none
theorem E_act_Check (lf : Nat) (cl : Cl) : PK.Eq [.ptr, .agg] (evFn PG cl noL noR J_act_Check lf Tryz.f130) (B_act_Check lf cl) := by intro q0 q1 H K; kernel_rfl
theorem O_act_Check (lf : Nat) (w0 : World) : OkB PG w0 i_act_Check (PK.run [.ptr, .agg] (B_act_Check lf)) := okb mix (fn := Tryz.f130) rfl (E_act_Check lf)
def B_act_Done (lf : Nat) (cl : Cl) (q0 : AP) (q1 : List AS) (q2 : Int) (H : AH) (K : AV → AH → Bool) : Bool :=
 newK H (.row q1) fun g1 h2 => rowK h2 g1 fun cs3 => ldI cs3 1 .i64 fun n4 => cl i_table_Table_Get [AV.s (AS.ptr q0), AV.s (AS.int .i64 n4)] h2 fun r5 h6 => tup2 r5 fun x7 x8 => asG x7 fun cs9 => arB x8 fun b10 => newK h6 (.row [AS.int .i64 (Int.ofNat 0), AS.int .i64 (Int.ofNat 0), AS.int .i64 (Int.ofNat 0), AS.int .i64 (Int.ofNat 0), AS.str [], AS.int .i64 (Int.ofNat 0), AS.str [], AS.int .i64 (Int.ofNat 0), AS.str [], AS.int .i64 (Int.ofNat 0), AS.str []]) fun g11 h12 => stoN h12 g11 0 11 cs9 fun h13 => joinX (fun (x55 : AP × AP × AP × Bool) (h56 : AH) => pR x55 fun p58 r59 => pR r59 fun p60 r61 => pR r61 fun p62 r63 => nilK p62 fun g65 o66 => rowK h56 g65 fun cs67 => ldG cs67 o66 11 fun cs68 => cl i_table_Table_Lay [AV.s (AS.ptr p58), AV.agg cs68] h56 fun r69 h70 => tup0 r69 (nilK p60 fun g71 o72 => fN (Nat.add o72 1) fun o73 => rowK h70 g71 fun cs74 => ldI cs74 o73 .i64 fun n75 => K (AV.tup [AV.s (AS.int .i64 n75), AV.s (AS.bool r63)]) h70)) fun J57 => rowK h13 g1 fun cs14 => ldI cs14 0 .i64 fun n15 => fB (iEq n15 (Int.ofNat 1)) fun b16 => ifA b16 (cl i_table_Table_Get [AV.s (AS.ptr q0), AV.s (AS.int .i64 q2)] h13 fun r17 h18 => tup2 r17 fun x19 x20 => asG x19 fun cs21 => arB x20 fun b22 => newK h18 (.row [AS.int .i64 (Int.ofNat 0), AS.int .i64 (Int.ofNat 0), AS.int .i64 (Int.ofNat 0), AS.int .i64 (Int.ofNat 0), AS.str [], AS.int .i64 (Int.ofNat 0), AS.str [], AS.int .i64 (Int.ofNat 0), AS.str [], AS.int .i64 (Int.ofNat 0), AS.str []]) fun g23 h24 => stoN h24 g23 0 11 cs21 fun h25 => ifA b22 (K (AV.tup [AV.s (AS.int .i64 (Int.ofNat 0)), AV.s (AS.bool false)]) h25) (fB (iLt q2 (Int.ofNat 0)) fun b26 => ifA b26 (K (AV.tup [AV.s (AS.int .i64 (Int.ofNat 0)), AV.s (AS.bool false)]) h25) (fB (iLt (Int.ofNat 1000000) q2) fun b27 => ifA b27 (K (AV.tup [AV.s (AS.int .i64 (Int.ofNat 0)), AV.s (AS.bool false)]) h25) (rowK h25 g1 fun cs28 => ldG cs28 4 2 fun cs29 => rowK h25 g1 fun cs30 => ldG cs30 6 8 fun cs31 => okK (Nat.beq (ln cs29) 2) (okK (Nat.beq (ln cs31) 8) (fL ((AS.int .i64 q2) :: (ap (α := AS) cs29 (ap (α := AS) cs31 []))) fun cs32 => cl i_table_Table_Lay [AV.s (AS.ptr q0), AV.agg cs32] h25 fun r33 h34 => tup0 r33 (K (AV.tup [AV.s (AS.int .i64 q2), AV.s (AS.bool true)]) h34))))))) (fB (iEq n15 (Int.ofNat 2)) fun b35 => ifA b35 (rowK h13 g1 fun cs36 => ldG cs36 4 2 fun cs37 => stoN h13 g11 1 2 cs37 fun h38 => J57 (q0, (.at g1 0), (.at g11 0), b10) h38) (fB (iEq n15 (Int.ofNat 3)) fun b39 => ifA b39 (rowK h13 g1 fun cs40 => ldI cs40 2 .i64 fun n41 => rowK h13 g1 fun cs42 => ldG cs42 14 2 fun cs43 => idxK n41 4 fun m44 => fN (Nat.add 3 (Nat.mul m44 2)) fun o45 => stoN h13 g11 o45 2 cs43 fun h46 => J57 (q0, (.at g1 0), (.at g11 0), b10) h46) (fB (iEq n15 (Int.ofNat 4)) fun b47 => ifA b47 (rowK h13 g1 fun cs48 => ldI cs48 1 .i64 fun n49 => cl i_table_Table_Drop [AV.s (AS.ptr q0), AV.s (AS.int .i64 n49)] h13 fun r50 h51 => arI r50 .i64 fun n52 => rowK h51 g1 fun cs53 => ldI cs53 1 .i64 fun n54 => K (AV.tup [AV.s (AS.int .i64 n54), AV.s (AS.bool b10)]) h51) (J57 (q0, (.at g1 0), (.at g11 0), b10) h13))))
def J_act_Done : Option Nat → Option LoopA := fun id => match id with
 | some 16 => some ⟨AP × AP × AP × Bool, (.pair (EncA.ptr 0) (.pair (EncA.ptr 4) (.pair (EncA.ptr 8) (EncA.bool 9))))⟩
 | _ => none
theorem E_act_Done (lf : Nat) (cl : Cl) : PK.Eq [.ptr, .agg, .int .i64] (evFn PG cl noL noR J_act_Done lf Tryz.f131) (B_act_Done lf cl) := by intro q0 q1 q2 H K; kernel_rfl
theorem O_act_Done (lf : Nat) (w0 : World) : OkB PG w0 i_act_Done (PK.run [.ptr, .agg, .int .i64] (B_act_Done lf)) := okb mix (fn := Tryz.f131) rfl (E_act_Done lf)
def B_act_full (lf : Nat) (cl : Cl) (q0 : AP) (q1 : List AS) (H : AH) (K : AV → AH → Bool) : Bool :=
 newK H (.row q1) fun g1 h2 => rowK h2 g1 fun cs3 => ldG cs3 0 2 fun cs4 => cl i_cells_Of [AV.agg cs4] h2 fun r5 h6 => tup2 r5 fun x7 x8 => arI x7 .i64 fun n9 => arI x8 .i64 fun n10 => cl i_table_Table_Cell [AV.s (AS.ptr q0), AV.s (AS.int .i64 n9)] h6 fun r11 h12 => asSl r11 fun p13 l13 c13 z13 => fB (iLe (Int.ofNat 8) (Int.ofNat l13)) fun b14 => K (AV.s (AS.bool b14)) h12
theorem E_act_full (lf : Nat) (cl : Cl) : PK.Eq [.ptr, .agg] (evFn PG cl noL noR noJ lf Tryz.f184) (B_act_full lf cl) := by intro q0 q1 H K; kernel_rfl
theorem O_act_full (lf : Nat) (w0 : World) : OkB PG w0 i_act_full (PK.run [.ptr, .agg] (B_act_full lf)) := okb mix (fn := Tryz.f184) rfl (E_act_full lf)
def B_act_away (lf : Nat) (cl : Cl) (q0 : List AS) (q1 : List AS) (H : AH) (K : AV → AH → Bool) : Bool :=
 newK H (.row q0) fun g1 h2 => newK h2 (.row q1) fun g3 h4 => rowK h4 g1 fun cs5 => ldG cs5 0 2 fun cs6 => cl i_cells_Of [AV.agg cs6] h4 fun r7 h8 => tup2 r7 fun x9 x10 => arI x9 .i64 fun n11 => arI x10 .i64 fun n12 => rowK h8 g3 fun cs13 => ldG cs13 0 2 fun cs14 => cl i_cells_Of [AV.agg cs14] h8 fun r15 h16 => tup2 r15 fun x17 x18 => arI x17 .i64 fun n19 => arI x18 .i64 fun n20 => fB (!iEq n11 n19) fun b21 => K (AV.s (AS.bool b21)) h16
theorem E_act_away (lf : Nat) (cl : Cl) : PK.Eq [.agg, .agg] (evFn PG cl noL noR noJ lf Tryz.f185) (B_act_away lf cl) := by intro q0 q1 H K; kernel_rfl
theorem O_act_away (lf : Nat) (w0 : World) : OkB PG w0 i_act_away (PK.run [.agg, .agg] (B_act_away lf)) := okb mix (fn := Tryz.f185) rfl (E_act_away lf)
end
end Go.Proofs
end
