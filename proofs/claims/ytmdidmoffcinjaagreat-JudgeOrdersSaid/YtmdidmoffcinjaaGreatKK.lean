import Derived.Shelf.SlGeneric
import Derived.Shelf.SlIterI.Nil
import Derived.Shelf.SortM.Plain
import Derived.Shelf.SortM.SortNone
import Derived.Ground.GgzProg
import Derived.Ground.SlgmProg
import Derived.Test.YtmdidmoffcinjaaGreatProg
import Derived.Test.YtmdidmoffcinjaaGreatVwKeys
import Derived.KernelRfl
import Derived.Test.YtmdidmoffcinjaaGreatChecked
section
namespace Go.Proofs
open Go.Shelf
def Tryz.keys117_ren : Go.Shelf.Ren := ⟨fun | 7 => 117 | 10 => 177 | n => n, fun | 23 => 186 | 26 => 3 | 3 => 38 | 28 => 203 | 0 => 0 | 27 => 202 | 33 => 194 | 4 => 4 | n => n, fun | n => n⟩
theorem Tryz.keys117 : Go.Proofs.SlLaysZI.n7 Tryz.prog Tryz.keys117_ren := {
 mixed := by kernel_rfl
 f7 := ⟨Tryz.f117.name, by decide, Tryz.func117.trans (congrArg some (by kernel_rfl))⟩
 f10 := ⟨Tryz.f177.name, by decide, Tryz.func177.trans (congrArg some (by kernel_rfl))⟩
 t0 := Tryz.underlying0
 a0 := Tryz.isAgg0
 z0 := Tryz.sizeOf0
 v0 := Tryz.zeroValue0
 t4 := Tryz.underlying4
 a4 := Tryz.isAgg4
 z4 := Tryz.sizeOf4
 v4 := Tryz.zeroValue4
 t23 := Tryz.underlying186
 a23 := Tryz.isAgg186
 z23 := Tryz.sizeOf186
 v23 := Tryz.zeroValue186
 t26 := Tryz.underlying3
 a26 := Tryz.isAgg3
 z26 := Tryz.sizeOf3
 v26 := Tryz.zeroValue3
 t27 := Tryz.underlying202
 a27 := Tryz.isAgg202
 z27 := Tryz.sizeOf202
 v27 := Tryz.zeroValue202
 t28 := Tryz.underlying203
 a28 := Tryz.isAgg203
 z28 := Tryz.sizeOf203
 v28 := Tryz.zeroValue203
 t33 := Tryz.underlying194
 a33 := Tryz.isAgg194
 z33 := Tryz.sizeOf194
 v33 := Tryz.zeroValue194 }
def Tryz.sorted117_ren : Go.Shelf.Ren := ⟨fun | 6 => 116 | 8 => 175 | 9 => 176 | 11 => 215 | 13 => 179 | 12 => 216 | 23 => 225 | 24 => 226 | 14 => 239 | 15 => 240 | 16 => 241 | 17 => 242 | 18 => 243 | 19 => 244 | 20 => 245 | 21 => 246 | 22 => 247 | 25 => 258 | 26 => 249 | 27 => 250 | 28 => 259 | 29 => 260 | 30 => 138 | 31 => 265 | n => n, fun | 26 => 3 | 28 => 203 | 24 => 112 | 0 => 0 | 3 => 3 | 37 => 258 | 48 => 268 | 50 => 298 | 4 => 4 | 40 => 291 | 39 => 290 | 45 => 214 | 5 => 5 | 9 => 9 | 51 => 311 | 55 => 315 | 57 => 324 | 58 => 86 | 33 => 194 | n => n, fun | n => n⟩
theorem Tryz.sorted117 : Go.Proofs.SlLaysZI.n6 Tryz.prog Tryz.sorted117_ren := {
 mixed := by kernel_rfl
 f6 := ⟨Tryz.f116.name, by decide, Tryz.func116.trans (congrArg some (by kernel_rfl))⟩
 f8 := ⟨Tryz.f175.name, by decide, Tryz.func175.trans (congrArg some (by kernel_rfl))⟩
 f11 := ⟨Tryz.f215.name, by decide, Tryz.func215.trans (congrArg some (by kernel_rfl))⟩
 t0 := Tryz.underlying0
 a0 := Tryz.isAgg0
 z0 := Tryz.sizeOf0
 v0 := Tryz.zeroValue0
 t24 := Tryz.underlying112
 a24 := Tryz.isAgg112
 z24 := Tryz.sizeOf112
 v24 := Tryz.zeroValue112
 t26 := Tryz.underlying3
 a26 := Tryz.isAgg3
 z26 := Tryz.sizeOf3
 v26 := Tryz.zeroValue3
 t28 := Tryz.underlying203
 a28 := Tryz.isAgg203
 z28 := Tryz.sizeOf203
 v28 := Tryz.zeroValue203
 i26 := by kernel_rfl }
def Tryz.sort0_ren : Go.Shelf.Ren := ⟨fun | 5 => 176 | 8 => 179 | 7 => 216 | 19 => 225 | 20 => 226 | 10 => 239 | 11 => 240 | 12 => 241 | 13 => 242 | 14 => 243 | 15 => 244 | 16 => 245 | 17 => 246 | 18 => 247 | 30 => 258 | 31 => 249 | 32 => 250 | 33 => 259 | 34 => 260 | 35 => 138 | 40 => 265 | n => n, fun | 23 => 112 | 25 => 3 | 3 => 3 | 32 => 258 | 22 => 112 | 0 => 0 | 44 => 268 | 46 => 298 | 4 => 4 | 36 => 291 | 35 => 290 | 41 => 214 | 5 => 5 | 9 => 9 | 53 => 311 | 57 => 315 | 63 => 324 | 64 => 86 | n => n, fun | n => n⟩
theorem Tryz.sort0 : Go.Proofs.SlLaysM.n5 Tryz.prog Tryz.sort0_ren := {
 mixed := by kernel_rfl
 f5 := ⟨Tryz.f176.name, by decide, Tryz.func176.trans (congrArg some (by kernel_rfl))⟩
 f7 := ⟨Tryz.f216.name, by decide, Tryz.func216.trans (congrArg some (by kernel_rfl))⟩
 f8 := Tryz.func179.trans (congrArg some (by kernel_rfl))
 f10 := ⟨Tryz.f239.name, by decide, Tryz.func239.trans (congrArg some (by kernel_rfl))⟩
 f11 := ⟨Tryz.f240.name, by decide, Tryz.func240.trans (congrArg some (by kernel_rfl))⟩
 f12 := ⟨Tryz.f241.name, by decide, Tryz.func241.trans (congrArg some (by kernel_rfl))⟩
 f13 := ⟨Tryz.f242.name, by decide, Tryz.func242.trans (congrArg some (by kernel_rfl))⟩
 f14 := ⟨Tryz.f243.name, by decide, Tryz.func243.trans (congrArg some (by kernel_rfl))⟩
 f15 := ⟨Tryz.f244.name, by decide, Tryz.func244.trans (congrArg some (by kernel_rfl))⟩
 f16 := ⟨Tryz.f245.name, by decide, Tryz.func245.trans (congrArg some (by kernel_rfl))⟩
 f17 := ⟨Tryz.f246.name, by decide, Tryz.func246.trans (congrArg some (by kernel_rfl))⟩
 f18 := ⟨Tryz.f247.name, by decide, Tryz.func247.trans (congrArg some (by kernel_rfl))⟩
 f19 := Tryz.func225.trans (congrArg some (by kernel_rfl))
 f20 := Tryz.func226.trans (congrArg some (by kernel_rfl))
 f30 := ⟨Tryz.f258.name, by decide, Tryz.func258.trans (congrArg some (by kernel_rfl))⟩
 f31 := Tryz.func249.trans (congrArg some (by kernel_rfl))
 f32 := Tryz.func250.trans (congrArg some (by kernel_rfl))
 f33 := ⟨Tryz.f259.name, by decide, Tryz.func259.trans (congrArg some (by kernel_rfl))⟩
 f34 := ⟨Tryz.f260.name, by decide, Tryz.func260.trans (congrArg some (by kernel_rfl))⟩
 f35 := ⟨Tryz.f138.name, by decide, Tryz.func138.trans (congrArg some (by kernel_rfl))⟩
 f40 := ⟨Tryz.f265.name, by decide, Tryz.func265.trans (congrArg some (by kernel_rfl))⟩
 t0 := Tryz.underlying0
 a0 := Tryz.isAgg0
 z0 := Tryz.sizeOf0
 v0 := Tryz.zeroValue0
 t3 := Tryz.underlying3
 a3 := Tryz.isAgg3
 z3 := Tryz.sizeOf3
 v3 := Tryz.zeroValue3
 t4 := Tryz.underlying4
 a4 := Tryz.isAgg4
 z4 := Tryz.sizeOf4
 v4 := Tryz.zeroValue4
 t5 := Tryz.underlying5
 a5 := Tryz.isAgg5
 z5 := Tryz.sizeOf5
 v5 := Tryz.zeroValue5
 t9 := Tryz.underlying9
 a9 := Tryz.isAgg9
 z9 := Tryz.sizeOf9
 v9 := Tryz.zeroValue9
 t22 := Tryz.underlying112
 a22 := Tryz.isAgg112
 z22 := Tryz.sizeOf112
 v22 := Tryz.zeroValue112
 t23 := Tryz.underlying112
 a23 := Tryz.isAgg112
 z23 := Tryz.sizeOf112
 v23 := Tryz.zeroValue112
 t25 := Tryz.underlying3
 a25 := Tryz.isAgg3
 z25 := Tryz.sizeOf3
 v25 := Tryz.zeroValue3
 t32 := Tryz.underlying258
 a32 := Tryz.isAgg258
 z32 := Tryz.sizeOf258
 v32 := Tryz.zeroValue258
 t35 := Tryz.underlying290
 a35 := Tryz.isAgg290
 z35 := Tryz.sizeOf290
 v35 := Tryz.zeroValue290
 t36 := Tryz.underlying291
 a36 := Tryz.isAgg291
 z36 := Tryz.sizeOf291
 v36 := Tryz.zeroValue291
 t41 := Tryz.underlying214
 a41 := Tryz.isAgg214
 z41 := Tryz.sizeOf214
 v41 := Tryz.zeroValue214
 t44 := Tryz.underlying268
 a44 := Tryz.isAgg268
 z44 := Tryz.sizeOf268
 v44 := Tryz.zeroValue268
 t46 := Tryz.underlying298
 a46 := Tryz.isAgg298
 z46 := Tryz.sizeOf298
 v46 := Tryz.zeroValue298
 t53 := Tryz.underlying311
 a53 := Tryz.isAgg311
 z53 := Tryz.sizeOf311
 v53 := Tryz.zeroValue311
 t57 := Tryz.underlying315
 a57 := Tryz.isAgg315
 z57 := Tryz.sizeOf315
 v57 := Tryz.zeroValue315
 t63 := Tryz.underlying324
 a63 := Tryz.isAgg324
 z63 := Tryz.sizeOf324
 v63 := Tryz.zeroValue324
 t64 := Tryz.underlying86
 a64 := Tryz.isAgg86
 z64 := Tryz.sizeOf86
 v64 := Tryz.zeroValue86 }
end Go.Proofs
end
section
namespace Go.Proofs
open Go Go.Vw Go.Vw.Ev Go.RowKit Go.Maps Go.Sort Go.Shelf
set_option maxRecDepth 100000
set_option linter.unusedVariables false
theorem okKeys117 (w0 : World) : OkB Tryz.prog w0 117 (keysB 177) := okb_keys (M := 186) fun mb w => (callsIn_wide (n := 5)).1 (AnyZI.keys_in Tryz.keys117 Fence.wide 5 trivial rfl mb w)
theorem Tryz.sorts117 (m : Nat) : AnyZI.SortsIn Tryz.prog Tryz.sorted117_ren Fence.wide m :=
 ⟨fun blk off cap ss W hH hblk hsz => callsIn_wide.2 (AnyM.slices_Sort_int Tryz.sort0 blk off cap ss W hH hblk hsz), fun p cap W => callsIn_wide.2 (AnyM.slices_Sort_int_none Tryz.sort0 p cap W)⟩
theorem sortedAt117 (w : World) (Bm b nn : Nat) (D0 : DataW Unit) (R : Value → Option (DataW Unit × List MemPlace)) (hb : Bm < w.heap.size) (hc : w.cell? ⟨Bm, 0, none⟩ = some (.map (some b))) (ho : w.ownsMap Tryz.prog 3 R b nn D0)
  (hmax : Maps.size D0 ≤ maxLen) (hbytes : Maps.size D0 * 8 ≤ 140737488355328) :
  Calls Tryz.prog 116 #[.func (.func 177) #[] #[.pointer (some ⟨Bm, 0, none⟩)]] w fun e w' => ∃ (v : Value) (ss : List Int), e = .returned v ∧ ss.Perm (intKeys D0) ∧
    w'.ownsRow w.heap.size 3 1 v ss.length ((ss.mergeSort (fun x y => decide (x ≤ y))).map encZ) ∧ (v = .slice none 0 0 ↔ ss = []) ∧ Below w.heap.size w w' := by
 have hseq : SeqGives Fence.wide 2 Tryz.prog 177 #[.pointer (some ⟨Bm, 0, none⟩)] encZ (fun ss => ss.Perm (intKeys D0)) (Maps.size D0) w :=
  AnyZI.keys_gives (ρ := Tryz.keys117_ren) { Tryz.keys117 with } Fence.wide _ trivial rfl (by omega) Bm b nn D0 _ hb hc ho
 have cS := AnyZI.sorted_in Tryz.sorted117 Fence.wide 5 trivial trivial trivial trivial rfl (by omega) (Tryz.sorts117 _) (enters_of Tryz.func176 (by kernel_rfl) rfl) 177 #[.pointer (some ⟨Bm, 0, none⟩)] trivial (enters_of Tryz.func177 (by kernel_rfl) rfl) _ _ hmax hbytes _ hseq
 exact (callsIn_wide (n := 5)).1 cS
theorem sortedNil117 (w : World) (Bm : Nat) (hb : Bm < w.heap.size) (hc : w.cell? ⟨Bm, 0, none⟩ = some (.map none)) :
  Calls Tryz.prog 116 #[.func (.func 177) #[] #[.pointer (some ⟨Bm, 0, none⟩)]] w fun e w' => ∃ (v : Value) (ss : List Int), e = .returned v ∧ ss = [] ∧ (v = .slice none 0 0 ↔ ss = []) ∧ Below w.heap.size w w' := by
 have hseq : SeqGives Fence.wide 2 Tryz.prog 177 #[.pointer (some ⟨Bm, 0, none⟩)] encZ (fun ss : List Int => ss = []) 0 w :=
  AnyZI.keys_gives_nil (ρ := Tryz.keys117_ren) { Tryz.keys117 with } Fence.wide _ trivial rfl Bm _ hb hc
 have cS := AnyZI.sorted_in Tryz.sorted117 Fence.wide 5 trivial trivial trivial trivial rfl (by omega) (Tryz.sorts117 _) (enters_of Tryz.func176 (by kernel_rfl) rfl) 177 #[.pointer (some ⟨Bm, 0, none⟩)] trivial (enters_of Tryz.func177 (by kernel_rfl) rfl) _ 0 (Nat.zero_le _) (by omega) _ hseq
 refine ((callsIn_wide (n := 5)).1 cS).mono ?_
 rintro e w' ⟨v, ss, h1, h2, h3, h4, h5⟩
 exact ⟨v, ss, h1, h2, h4, h5⟩
theorem okSorted (w0 : World) : OkB Tryz.prog w0 116 (sortedB [177]) := by
 refine okb_sorted (kt := 3) Tryz.underlying3 ?_ ?_
 ·intro g hg
  simp only [List.mem_cons, List.not_mem_nil, or_false] at hg
  rcases hg with rfl
  ·exact sortedAt117
 ·intro g hg
  simp only [List.mem_cons, List.not_mem_nil, or_false] at hg
  rcases hg with rfl
  ·exact sortedNil117
end Go.Proofs
end
