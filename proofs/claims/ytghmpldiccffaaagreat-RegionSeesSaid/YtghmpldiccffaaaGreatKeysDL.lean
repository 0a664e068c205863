/-
  DERIVED: THE SHELF's CONTRACTS AT THIS DUMP, IN PLAIN WORDS (tools/lay-plain.mjs out of 'YtghmpldiccffaaaGreatLay0.lean', which tools/lay-shelf.mjs wrote): THE SAME DECLARATIONS UNDER THE SAME NAMES: 'import', 'namespace', 'open', 'def', 'theorem' AND NOTHING ELSE: no command of the shelf's: FOR A HAND-IN. Each laying: the table of numbers ('.._ren') and one theorem, a field a fact of the dump's own or the kernel's comparison; each contract: ONE APPLICATION.
-/
import Derived.Shelf.SlGeneric
import Derived.Shelf.SlIterI.Nil
import Derived.Shelf.SortM.Plain
import Derived.Shelf.SortM.SortNone
import Derived.Ground.GgzProg
import Derived.Ground.SlgmProg
import Derived.Test.YtghmpldiccffaaaGreatProg
namespace Go.Proofs
open Go.Shelf
def Tryz.keys68_ren : Go.Shelf.Ren := ⟨fun | 7 => 68 | 10 => 96 | n => n, fun | 23 => 127 | 26 => 3 | 3 => 59 | 28 => 147 | 0 => 0 | 27 => 146 | 33 => 82 | 4 => 4 | n => n, fun | n => n⟩
theorem Tryz.keys68 : Go.Proofs.SlLaysZI.n7 Tryz.prog Tryz.keys68_ren := {
 mixed := by kernel_rfl
 f7 := ⟨Tryz.f68.name, by decide, Tryz.func68.trans (congrArg some (by kernel_rfl))⟩
 f10 := ⟨Tryz.f96.name, by decide, Tryz.func96.trans (congrArg some (by kernel_rfl))⟩
 t0 := Tryz.underlying0
 a0 := Tryz.isAgg0
 z0 := Tryz.sizeOf0
 v0 := Tryz.zeroValue0
 t4 := Tryz.underlying4
 a4 := Tryz.isAgg4
 z4 := Tryz.sizeOf4
 v4 := Tryz.zeroValue4
 t23 := Tryz.underlying127
 a23 := Tryz.isAgg127
 z23 := Tryz.sizeOf127
 v23 := Tryz.zeroValue127
 t26 := Tryz.underlying3
 a26 := Tryz.isAgg3
 z26 := Tryz.sizeOf3
 v26 := Tryz.zeroValue3
 t27 := Tryz.underlying146
 a27 := Tryz.isAgg146
 z27 := Tryz.sizeOf146
 v27 := Tryz.zeroValue146
 t28 := Tryz.underlying147
 a28 := Tryz.isAgg147
 z28 := Tryz.sizeOf147
 v28 := Tryz.zeroValue147
 t33 := Tryz.underlying82
 a33 := Tryz.isAgg82
 z33 := Tryz.sizeOf82
 v33 := Tryz.zeroValue82 }
def Tryz.sorted68_ren : Go.Shelf.Ren := ⟨fun | 6 => 67 | 8 => 94 | 9 => 95 | 11 => 113 | 13 => 109 | 12 => 114 | 23 => 135 | 24 => 136 | 14 => 140 | 15 => 141 | 16 => 142 | 17 => 143 | 18 => 144 | 19 => 145 | 20 => 146 | 21 => 147 | 22 => 148 | 25 => 162 | 26 => 156 | 27 => 157 | 28 => 163 | 29 => 164 | 30 => 165 | 31 => 171 | n => n, fun | 26 => 3 | 28 => 147 | 24 => 144 | 0 => 0 | 3 => 3 | 37 => 54 | 48 => 197 | 50 => 221 | 4 => 4 | 40 => 214 | 39 => 213 | 45 => 141 | 5 => 5 | 9 => 9 | 51 => 237 | 55 => 241 | 57 => 252 | 58 => 246 | 33 => 82 | n => n, fun | n => n⟩
theorem Tryz.sorted68 : Go.Proofs.SlLaysZI.n6 Tryz.prog Tryz.sorted68_ren := {
 mixed := by kernel_rfl
 f6 := ⟨Tryz.f67.name, by decide, Tryz.func67.trans (congrArg some (by kernel_rfl))⟩
 f8 := ⟨Tryz.f94.name, by decide, Tryz.func94.trans (congrArg some (by kernel_rfl))⟩
 f11 := ⟨Tryz.f113.name, by decide, Tryz.func113.trans (congrArg some (by kernel_rfl))⟩
 t0 := Tryz.underlying0
 a0 := Tryz.isAgg0
 z0 := Tryz.sizeOf0
 v0 := Tryz.zeroValue0
 t24 := Tryz.underlying144
 a24 := Tryz.isAgg144
 z24 := Tryz.sizeOf144
 v24 := Tryz.zeroValue144
 t26 := Tryz.underlying3
 a26 := Tryz.isAgg3
 z26 := Tryz.sizeOf3
 v26 := Tryz.zeroValue3
 t28 := Tryz.underlying147
 a28 := Tryz.isAgg147
 z28 := Tryz.sizeOf147
 v28 := Tryz.zeroValue147
 i26 := by kernel_rfl }
def Tryz.sort0_ren : Go.Shelf.Ren := ⟨fun | 5 => 95 | 8 => 109 | 7 => 114 | 19 => 135 | 20 => 136 | 10 => 140 | 11 => 141 | 12 => 142 | 13 => 143 | 14 => 144 | 15 => 145 | 16 => 146 | 17 => 147 | 18 => 148 | 30 => 162 | 31 => 156 | 32 => 157 | 33 => 163 | 34 => 164 | 35 => 165 | 40 => 171 | n => n, fun | 23 => 144 | 25 => 3 | 3 => 3 | 32 => 54 | 22 => 144 | 0 => 0 | 44 => 197 | 46 => 221 | 4 => 4 | 36 => 214 | 35 => 213 | 41 => 141 | 5 => 5 | 9 => 9 | 53 => 237 | 57 => 241 | 63 => 252 | 64 => 246 | n => n, fun | n => n⟩
theorem Tryz.sort0 : Go.Proofs.SlLaysM.n5 Tryz.prog Tryz.sort0_ren := {
 mixed := by kernel_rfl
 f5 := ⟨Tryz.f95.name, by decide, Tryz.func95.trans (congrArg some (by kernel_rfl))⟩
 f7 := ⟨Tryz.f114.name, by decide, Tryz.func114.trans (congrArg some (by kernel_rfl))⟩
 f8 := Tryz.func109.trans (congrArg some (by kernel_rfl))
 f10 := ⟨Tryz.f140.name, by decide, Tryz.func140.trans (congrArg some (by kernel_rfl))⟩
 f11 := ⟨Tryz.f141.name, by decide, Tryz.func141.trans (congrArg some (by kernel_rfl))⟩
 f12 := ⟨Tryz.f142.name, by decide, Tryz.func142.trans (congrArg some (by kernel_rfl))⟩
 f13 := ⟨Tryz.f143.name, by decide, Tryz.func143.trans (congrArg some (by kernel_rfl))⟩
 f14 := ⟨Tryz.f144.name, by decide, Tryz.func144.trans (congrArg some (by kernel_rfl))⟩
 f15 := ⟨Tryz.f145.name, by decide, Tryz.func145.trans (congrArg some (by kernel_rfl))⟩
 f16 := ⟨Tryz.f146.name, by decide, Tryz.func146.trans (congrArg some (by kernel_rfl))⟩
 f17 := ⟨Tryz.f147.name, by decide, Tryz.func147.trans (congrArg some (by kernel_rfl))⟩
 f18 := ⟨Tryz.f148.name, by decide, Tryz.func148.trans (congrArg some (by kernel_rfl))⟩
 f19 := Tryz.func135.trans (congrArg some (by kernel_rfl))
 f20 := Tryz.func136.trans (congrArg some (by kernel_rfl))
 f30 := ⟨Tryz.f162.name, by decide, Tryz.func162.trans (congrArg some (by kernel_rfl))⟩
 f31 := Tryz.func156.trans (congrArg some (by kernel_rfl))
 f32 := Tryz.func157.trans (congrArg some (by kernel_rfl))
 f33 := ⟨Tryz.f163.name, by decide, Tryz.func163.trans (congrArg some (by kernel_rfl))⟩
 f34 := ⟨Tryz.f164.name, by decide, Tryz.func164.trans (congrArg some (by kernel_rfl))⟩
 f35 := ⟨Tryz.f165.name, by decide, Tryz.func165.trans (congrArg some (by kernel_rfl))⟩
 f40 := ⟨Tryz.f171.name, by decide, Tryz.func171.trans (congrArg some (by kernel_rfl))⟩
 t0 := Tryz.underlying0
 a0 := Tryz.isAgg0
 z0 := Tryz.sizeOf0
 v0 := Tryz.zeroValue0
 t3 := Tryz.underlying3
 a3 := Tryz.isAgg3
 z3 := Tryz.sizeOf3
 v3 := Tryz.zeroValue3
 t4 := Tryz.underlying4
 a4 := Tryz.isAgg4
 z4 := Tryz.sizeOf4
 v4 := Tryz.zeroValue4
 t5 := Tryz.underlying5
 a5 := Tryz.isAgg5
 z5 := Tryz.sizeOf5
 v5 := Tryz.zeroValue5
 t9 := Tryz.underlying9
 a9 := Tryz.isAgg9
 z9 := Tryz.sizeOf9
 v9 := Tryz.zeroValue9
 t22 := Tryz.underlying144
 a22 := Tryz.isAgg144
 z22 := Tryz.sizeOf144
 v22 := Tryz.zeroValue144
 t23 := Tryz.underlying144
 a23 := Tryz.isAgg144
 z23 := Tryz.sizeOf144
 v23 := Tryz.zeroValue144
 t25 := Tryz.underlying3
 a25 := Tryz.isAgg3
 z25 := Tryz.sizeOf3
 v25 := Tryz.zeroValue3
 t32 := Tryz.underlying54
 a32 := Tryz.isAgg54
 z32 := Tryz.sizeOf54
 v32 := Tryz.zeroValue54
 t35 := Tryz.underlying213
 a35 := Tryz.isAgg213
 z35 := Tryz.sizeOf213
 v35 := Tryz.zeroValue213
 t36 := Tryz.underlying214
 a36 := Tryz.isAgg214
 z36 := Tryz.sizeOf214
 v36 := Tryz.zeroValue214
 t41 := Tryz.underlying141
 a41 := Tryz.isAgg141
 z41 := Tryz.sizeOf141
 v41 := Tryz.zeroValue141
 t44 := Tryz.underlying197
 a44 := Tryz.isAgg197
 z44 := Tryz.sizeOf197
 v44 := Tryz.zeroValue197
 t46 := Tryz.underlying221
 a46 := Tryz.isAgg221
 z46 := Tryz.sizeOf221
 v46 := Tryz.zeroValue221
 t53 := Tryz.underlying237
 a53 := Tryz.isAgg237
 z53 := Tryz.sizeOf237
 v53 := Tryz.zeroValue237
 t57 := Tryz.underlying241
 a57 := Tryz.isAgg241
 z57 := Tryz.sizeOf241
 v57 := Tryz.zeroValue241
 t63 := Tryz.underlying252
 a63 := Tryz.isAgg252
 z63 := Tryz.sizeOf252
 v63 := Tryz.zeroValue252
 t64 := Tryz.underlying246
 a64 := Tryz.isAgg246
 z64 := Tryz.sizeOf246
 v64 := Tryz.zeroValue246 }
end Go.Proofs
