/- Contracts of the library at this seat, as a tool of the kit writes them, and their forms for the reader. -/
import Derived.Shelf.Sort.Plain
import Derived.Shelf.Slices.Turned
import Derived.Shelf.Slices.CompactI
import Derived.Shelf.Slices.SearchI
import Derived.Shelf.Slices.Delete
import Derived.Shelf.Slices.In.SortNone
import Derived.Shelf.Slices.Empties
import Derived.Test.YtgkohnjpnnofhaaGreatProg
import Derived.Test.YtgkohnjpnnofhaaGreatDenS2
import Derived.Test.YtgkohnjpnnofhaaGreatDenPlain
namespace Go.Proofs
open Go.Shelf
def Tryz.lays189_ren : Go.Shelf.Ren := ⟨fun | 189 => 56 | 125 => 75 | 257 => 74 | 128 => 94 | 129 => 95 | 294 => 85 | 295 => 86 | 296 => 87 | 297 => 88 | 298 => 89 | 299 => 90 | 216 => 91 | 300 => 92 | 301 => 93 | 328 => 100 | 329 => 101 | 330 => 102 | 331 => 103 | 332 => 104 | 215 => 105 | 343 => 107 | n => n, fun | 28 => 88 | 3 => 3 | 46 => 160 | 0 => 0 | 51 => 183 | 53 => 185 | 4 => 4 | 183 => 175 | 182 => 174 | 131 => 180 | 5 => 5 | 9 => 9 | 218 => 189 | 222 => 193 | 228 => 196 | 229 => 197 | n => n, fun | n => n⟩
theorem Tryz.lays189 : Go.Proofs.Lays.n189 Tryz.prog Tryz.lays189_ren := {
 mixed := by kernel_rfl
 f125 := Tryz.func75.trans (congrArg some (by kernel_rfl))
 f128 := Tryz.func94.trans (congrArg some (by kernel_rfl))
 f129 := Tryz.func95.trans (congrArg some (by kernel_rfl))
 f189 := Tryz.func56.trans (congrArg some (by kernel_rfl))
 f215 := Tryz.func105.trans (congrArg some (by kernel_rfl))
 f216 := Tryz.func91.trans (congrArg some (by kernel_rfl))
 f257 := Tryz.func74.trans (congrArg some (by kernel_rfl))
 f294 := Tryz.func85.trans (congrArg some (by kernel_rfl))
 f295 := Tryz.func86.trans (congrArg some (by kernel_rfl))
 f296 := Tryz.func87.trans (congrArg some (by kernel_rfl))
 f297 := Tryz.func88.trans (congrArg some (by kernel_rfl))
 f298 := Tryz.func89.trans (congrArg some (by kernel_rfl))
 f299 := Tryz.func90.trans (congrArg some (by kernel_rfl))
 f300 := Tryz.func92.trans (congrArg some (by kernel_rfl))
 f301 := Tryz.func93.trans (congrArg some (by kernel_rfl))
 f328 := Tryz.func100.trans (congrArg some (by kernel_rfl))
 f329 := Tryz.func101.trans (congrArg some (by kernel_rfl))
 f330 := Tryz.func102.trans (congrArg some (by kernel_rfl))
 f331 := Tryz.func103.trans (congrArg some (by kernel_rfl))
 f332 := Tryz.func104.trans (congrArg some (by kernel_rfl))
 f343 := Tryz.func107.trans (congrArg some (by kernel_rfl))
 t0 := Tryz.underlying0
 a0 := Tryz.isAgg0
 z0 := Tryz.sizeOf0
 v0 := Tryz.zeroValue0
 t3 := Tryz.underlying3
 a3 := Tryz.isAgg3
 z3 := Tryz.sizeOf3
 v3 := Tryz.zeroValue3
 t4 := Tryz.underlying4
 a4 := Tryz.isAgg4
 z4 := Tryz.sizeOf4
 v4 := Tryz.zeroValue4
 t5 := Tryz.underlying5
 a5 := Tryz.isAgg5
 z5 := Tryz.sizeOf5
 v5 := Tryz.zeroValue5
 t9 := Tryz.underlying9
 a9 := Tryz.isAgg9
 z9 := Tryz.sizeOf9
 v9 := Tryz.zeroValue9
 t28 := Tryz.underlying88
 a28 := Tryz.isAgg88
 z28 := Tryz.sizeOf88
 v28 := Tryz.zeroValue88
 t46 := Tryz.underlying160
 a46 := Tryz.isAgg160
 z46 := Tryz.sizeOf160
 v46 := Tryz.zeroValue160
 t51 := Tryz.underlying183
 a51 := Tryz.isAgg183
 z51 := Tryz.sizeOf183
 v51 := Tryz.zeroValue183
 t53 := Tryz.underlying185
 a53 := Tryz.isAgg185
 z53 := Tryz.sizeOf185
 v53 := Tryz.zeroValue185
 t131 := Tryz.underlying180
 a131 := Tryz.isAgg180
 z131 := Tryz.sizeOf180
 v131 := Tryz.zeroValue180
 t182 := Tryz.underlying174
 a182 := Tryz.isAgg174
 z182 := Tryz.sizeOf174
 v182 := Tryz.zeroValue174
 t183 := Tryz.underlying175
 a183 := Tryz.isAgg175
 z183 := Tryz.sizeOf175
 v183 := Tryz.zeroValue175
 t218 := Tryz.underlying189
 a218 := Tryz.isAgg189
 z218 := Tryz.sizeOf189
 v218 := Tryz.zeroValue189
 t222 := Tryz.underlying193
 a222 := Tryz.isAgg193
 z222 := Tryz.sizeOf193
 v222 := Tryz.zeroValue193
 t228 := Tryz.underlying196
 a228 := Tryz.isAgg196
 z228 := Tryz.sizeOf196
 v228 := Tryz.zeroValue196
 t229 := Tryz.underlying197
 a229 := Tryz.isAgg197
 z229 := Tryz.sizeOf197
 v229 := Tryz.zeroValue197 }
def Tryz.lays108_ren : Go.Shelf.Ren := ⟨fun | 108 => 38 | n => n, fun | 28 => 88 | 3 => 3 | 0 => 0 | 4 => 4 | n => n, fun | n => n⟩
def Tryz.laysNm220_ren : Go.Shelf.Ren := ⟨fun | 20 => 57 | n => n, fun | 22 => 88 | 3 => 3 | 4 => 4 | 0 => 0 | n => n, fun | n => n⟩
theorem Tryz.laysNm220 : Go.Proofs.Lays2.n20 Tryz.prog Tryz.laysNm220_ren := {
 mixed := by kernel_rfl
 f20 := Tryz.func57.trans (congrArg some (by kernel_rfl))
 t0 := Tryz.underlying0
 a0 := Tryz.isAgg0
 z0 := Tryz.sizeOf0
 v0 := Tryz.zeroValue0
 t3 := Tryz.underlying3
 a3 := Tryz.isAgg3
 z3 := Tryz.sizeOf3
 v3 := Tryz.zeroValue3
 t4 := Tryz.underlying4
 a4 := Tryz.isAgg4
 z4 := Tryz.sizeOf4
 v4 := Tryz.zeroValue4
 t22 := Tryz.underlying88
 a22 := Tryz.isAgg88
 z22 := Tryz.sizeOf88
 v22 := Tryz.zeroValue88
 i3 := by kernel_rfl }
def Tryz.laysNm237_ren : Go.Shelf.Ren := ⟨fun | 37 => 105 | n => n, fun | 3 => 3 | 4 => 4 | n => n, fun | n => n⟩
open Go.RowKit Go.Lib in
def Tryz.laysNm231_ren : Go.Shelf.Ren := ⟨fun | 31 => 91 | 37 => 105 | n => n, fun | 3 => 3 | 4 => 4 | n => n, fun | n => n⟩
open Go.RowKit Go.Lib in
def Tryz.laysNm223_ren : Go.Shelf.Ren := ⟨fun | 23 => 39 | n => n, fun | 22 => 88 | 3 => 3 | 4 => 4 | 0 => 0 | n => n, fun | n => n⟩
theorem Tryz.laysNm223 : Go.Proofs.Lays2.n23 Tryz.prog Tryz.laysNm223_ren := {
 mixed := by kernel_rfl
 f23 := Tryz.func39.trans (congrArg some (by kernel_rfl))
 t0 := Tryz.underlying0
 a0 := Tryz.isAgg0
 z0 := Tryz.sizeOf0
 v0 := Tryz.zeroValue0
 t3 := Tryz.underlying3
 a3 := Tryz.isAgg3
 z3 := Tryz.sizeOf3
 v3 := Tryz.zeroValue3
 t4 := Tryz.underlying4
 a4 := Tryz.isAgg4
 z4 := Tryz.sizeOf4
 v4 := Tryz.zeroValue4
 t22 := Tryz.underlying88
 a22 := Tryz.isAgg88
 z22 := Tryz.sizeOf88
 v22 := Tryz.zeroValue88
 i3 := by kernel_rfl }
end Go.Proofs
namespace Go.Proofs.YtgkohnjpnnofhaaGreat.Den
open Go Go.RowKit
theorem mok_Sort : MSemOk Tryz.prog DW 56 semSort := sort_m ⟨Tryz.f56, Tryz.func56, by kernel_rfl, by kernel_rfl⟩ Tryz.lays189 rfl
theorem mok_CompactO : MSemOk Tryz.prog DW 57 semCompactO := compactO_m ⟨Tryz.f57, Tryz.func57, by kernel_rfl, by kernel_rfl⟩ Tryz.laysNm220 rfl
theorem mok_Delete : MSemOk Tryz.prog DW 39 semDelete := delete_m ⟨Tryz.f39, Tryz.func39, by kernel_rfl, by kernel_rfl⟩ Tryz.laysNm223 rfl
end Go.Proofs.YtgkohnjpnnofhaaGreat.Den
