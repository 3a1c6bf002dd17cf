/- Contracts of the library at this seat, as a tool of the kit writes them, and their forms for the reader. -/
import Derived.Shelf.Sort.Plain
import Derived.Shelf.Slices.Turned
import Derived.Shelf.Slices.CompactI
import Derived.Shelf.Slices.SearchI
import Derived.Shelf.Slices.Delete
import Derived.Shelf.Slices.In.SortNone
import Derived.Shelf.Slices.Empties
import Derived.Test.YtgfleiknigjnbaaDoorProg
import Derived.Test.YtgfleiknigjnbaaDoorDenS2
import Derived.Test.YtgfleiknigjnbaaDoorDenDoor
namespace Go.Proofs
open Go.Shelf
def Tryd.lays189_ren : Go.Shelf.Ren := ⟨fun | 189 => 83 | 125 => 93 | 257 => 92 | 128 => 106 | 129 => 107 | 294 => 97 | 295 => 98 | 296 => 99 | 297 => 100 | 298 => 101 | 299 => 102 | 216 => 103 | 300 => 104 | 301 => 105 | 328 => 108 | 329 => 109 | 330 => 110 | 331 => 111 | 332 => 112 | 215 => 113 | 343 => 114 | n => n, fun | 28 => 45 | 3 => 3 | 46 => 166 | 0 => 0 | 51 => 192 | 53 => 194 | 4 => 4 | 183 => 184 | 182 => 183 | 131 => 189 | 5 => 5 | 9 => 9 | 218 => 195 | 222 => 199 | 228 => 201 | 229 => 202 | n => n, fun | n => n⟩
theorem Tryd.lays189 : Go.Proofs.Lays.n189 Tryd.prog Tryd.lays189_ren := {
  mixed := by kernel_rfl
  f125 := Tryd.func93.trans (congrArg some (by kernel_rfl))
  f128 := Tryd.func106.trans (congrArg some (by kernel_rfl))
  f129 := Tryd.func107.trans (congrArg some (by kernel_rfl))
  f189 := Tryd.func83.trans (congrArg some (by kernel_rfl))
  f215 := Tryd.func113.trans (congrArg some (by kernel_rfl))
  f216 := Tryd.func103.trans (congrArg some (by kernel_rfl))
  f257 := Tryd.func92.trans (congrArg some (by kernel_rfl))
  f294 := Tryd.func97.trans (congrArg some (by kernel_rfl))
  f295 := Tryd.func98.trans (congrArg some (by kernel_rfl))
  f296 := Tryd.func99.trans (congrArg some (by kernel_rfl))
  f297 := Tryd.func100.trans (congrArg some (by kernel_rfl))
  f298 := Tryd.func101.trans (congrArg some (by kernel_rfl))
  f299 := Tryd.func102.trans (congrArg some (by kernel_rfl))
  f300 := Tryd.func104.trans (congrArg some (by kernel_rfl))
  f301 := Tryd.func105.trans (congrArg some (by kernel_rfl))
  f328 := Tryd.func108.trans (congrArg some (by kernel_rfl))
  f329 := Tryd.func109.trans (congrArg some (by kernel_rfl))
  f330 := Tryd.func110.trans (congrArg some (by kernel_rfl))
  f331 := Tryd.func111.trans (congrArg some (by kernel_rfl))
  f332 := Tryd.func112.trans (congrArg some (by kernel_rfl))
  f343 := Tryd.func114.trans (congrArg some (by kernel_rfl))
  t0 := Tryd.underlying0
  a0 := Tryd.isAgg0
  z0 := Tryd.sizeOf0
  v0 := Tryd.zeroValue0
  t3 := Tryd.underlying3
  a3 := Tryd.isAgg3
  z3 := Tryd.sizeOf3
  v3 := Tryd.zeroValue3
  t4 := Tryd.underlying4
  a4 := Tryd.isAgg4
  z4 := Tryd.sizeOf4
  v4 := Tryd.zeroValue4
  t5 := Tryd.underlying5
  a5 := Tryd.isAgg5
  z5 := Tryd.sizeOf5
  v5 := Tryd.zeroValue5
  t9 := Tryd.underlying9
  a9 := Tryd.isAgg9
  z9 := Tryd.sizeOf9
  v9 := Tryd.zeroValue9
  t28 := Tryd.underlying45
  a28 := Tryd.isAgg45
  z28 := Tryd.sizeOf45
  v28 := Tryd.zeroValue45
  t46 := Tryd.underlying166
  a46 := Tryd.isAgg166
  z46 := Tryd.sizeOf166
  v46 := Tryd.zeroValue166
  t51 := Tryd.underlying192
  a51 := Tryd.isAgg192
  z51 := Tryd.sizeOf192
  v51 := Tryd.zeroValue192
  t53 := Tryd.underlying194
  a53 := Tryd.isAgg194
  z53 := Tryd.sizeOf194
  v53 := Tryd.zeroValue194
  t131 := Tryd.underlying189
  a131 := Tryd.isAgg189
  z131 := Tryd.sizeOf189
  v131 := Tryd.zeroValue189
  t182 := Tryd.underlying183
  a182 := Tryd.isAgg183
  z182 := Tryd.sizeOf183
  v182 := Tryd.zeroValue183
  t183 := Tryd.underlying184
  a183 := Tryd.isAgg184
  z183 := Tryd.sizeOf184
  v183 := Tryd.zeroValue184
  t218 := Tryd.underlying195
  a218 := Tryd.isAgg195
  z218 := Tryd.sizeOf195
  v218 := Tryd.zeroValue195
  t222 := Tryd.underlying199
  a222 := Tryd.isAgg199
  z222 := Tryd.sizeOf199
  v222 := Tryd.zeroValue199
  t228 := Tryd.underlying201
  a228 := Tryd.isAgg201
  z228 := Tryd.sizeOf201
  v228 := Tryd.zeroValue201
  t229 := Tryd.underlying202
  a229 := Tryd.isAgg202
  z229 := Tryd.sizeOf202
  v229 := Tryd.zeroValue202 }

def Tryd.lays108_ren : Go.Shelf.Ren := ⟨fun | 108 => 62 | n => n, fun | 28 => 45 | 3 => 3 | 0 => 0 | 4 => 4 | n => n, fun | n => n⟩
theorem Tryd.lays108 : Go.Proofs.Lays.n108 Tryd.prog Tryd.lays108_ren := {
  mixed := by kernel_rfl
  f108 := Tryd.func62.trans (congrArg some (by kernel_rfl))
  t0 := Tryd.underlying0
  a0 := Tryd.isAgg0
  z0 := Tryd.sizeOf0
  v0 := Tryd.zeroValue0
  t3 := Tryd.underlying3
  a3 := Tryd.isAgg3
  z3 := Tryd.sizeOf3
  v3 := Tryd.zeroValue3
  t4 := Tryd.underlying4
  a4 := Tryd.isAgg4
  z4 := Tryd.sizeOf4
  v4 := Tryd.zeroValue4
  t28 := Tryd.underlying45
  a28 := Tryd.isAgg45
  z28 := Tryd.sizeOf45
  v28 := Tryd.zeroValue45 }


def Tryd.laysNm220_ren : Go.Shelf.Ren := ⟨fun | 20 => 84 | n => n, fun | 22 => 45 | 3 => 3 | 4 => 4 | 0 => 0 | n => n, fun | n => n⟩
theorem Tryd.laysNm220 : Go.Proofs.Lays2.n20 Tryd.prog Tryd.laysNm220_ren := {
  mixed := by kernel_rfl
  f20 := Tryd.func84.trans (congrArg some (by kernel_rfl))
  t0 := Tryd.underlying0
  a0 := Tryd.isAgg0
  z0 := Tryd.sizeOf0
  v0 := Tryd.zeroValue0
  t3 := Tryd.underlying3
  a3 := Tryd.isAgg3
  z3 := Tryd.sizeOf3
  v3 := Tryd.zeroValue3
  t4 := Tryd.underlying4
  a4 := Tryd.isAgg4
  z4 := Tryd.sizeOf4
  v4 := Tryd.zeroValue4
  t22 := Tryd.underlying45
  a22 := Tryd.isAgg45
  z22 := Tryd.sizeOf45
  v22 := Tryd.zeroValue45
  i3 := by kernel_rfl }



def Tryd.laysNm237_ren : Go.Shelf.Ren := ⟨fun | 37 => 113 | n => n, fun | 3 => 3 | 4 => 4 | n => n, fun | n => n⟩
theorem Tryd.laysNm237 : Go.Proofs.Lays2.n37 Tryd.prog Tryd.laysNm237_ren := {
  mixed := by kernel_rfl
  f37 := Tryd.func113.trans (congrArg some (by kernel_rfl))
  t3 := Tryd.underlying3
  a3 := Tryd.isAgg3
  z3 := Tryd.sizeOf3
  v3 := Tryd.zeroValue3
  t4 := Tryd.underlying4
  a4 := Tryd.isAgg4
  z4 := Tryd.sizeOf4
  v4 := Tryd.zeroValue4 }
open Go.RowKit Go.Lib in
/-- cmp.isNaN[int]: 'x != x': false. (LAID: no walk: one application.) -/
theorem Tryd.cmp_isNaN_int2 (x : Int) (w : World) :
    Calls Tryd.prog 113 #[.int .i64 x] w fun e w' => e = .returned (.bool false) ∧ w' = w := Any.cmp_isNaN_int2 Tryd.laysNm237 x w
def Tryd.laysNm231_ren : Go.Shelf.Ren := ⟨fun | 31 => 103 | 37 => 113 | n => n, fun | 3 => 3 | 4 => 4 | n => n, fun | n => n⟩
theorem Tryd.laysNm231 : Go.Proofs.Lays2.n31 Tryd.prog Tryd.laysNm231_ren := {
  mixed := by kernel_rfl
  f31 := Tryd.func103.trans (congrArg some (by kernel_rfl))
  f37 := Tryd.func113.trans (congrArg some (by kernel_rfl))
  t3 := Tryd.underlying3
  a3 := Tryd.isAgg3
  z3 := Tryd.sizeOf3
  v3 := Tryd.zeroValue3
  t4 := Tryd.underlying4
  a4 := Tryd.isAgg4
  z4 := Tryd.sizeOf4
  v4 := Tryd.zeroValue4 }
open Go.RowKit Go.Lib in
/-- cmp.Less[int]: "Less reports whether x is less than y.": 'x < y'; the world is as it was. (LAID: no walk: one application.) -/
theorem Tryd.cmp_Less_int2 (x y : Int) (w : World) :
    Calls Tryd.prog 103 #[.int .i64 x, .int .i64 y] w fun e w' => e = .returned (.bool (decide (x < y))) ∧ w' = w := Any.cmp_Less_int2 Tryd.laysNm231 x y w
def Tryd.laysNm223_ren : Go.Shelf.Ren := ⟨fun | 23 => 63 | n => n, fun | 22 => 45 | 3 => 3 | 4 => 4 | 0 => 0 | n => n, fun | n => n⟩
theorem Tryd.laysNm223 : Go.Proofs.Lays2.n23 Tryd.prog Tryd.laysNm223_ren := {
  mixed := by kernel_rfl
  f23 := Tryd.func63.trans (congrArg some (by kernel_rfl))
  t0 := Tryd.underlying0
  a0 := Tryd.isAgg0
  z0 := Tryd.sizeOf0
  v0 := Tryd.zeroValue0
  t3 := Tryd.underlying3
  a3 := Tryd.isAgg3
  z3 := Tryd.sizeOf3
  v3 := Tryd.zeroValue3
  t4 := Tryd.underlying4
  a4 := Tryd.isAgg4
  z4 := Tryd.sizeOf4
  v4 := Tryd.zeroValue4
  t22 := Tryd.underlying45
  a22 := Tryd.isAgg45
  z22 := Tryd.sizeOf45
  v22 := Tryd.zeroValue45
  i3 := by kernel_rfl }




end Go.Proofs
namespace Go.Proofs.YtgfleiknigjnbaaDoor.Den
open Go Go.RowKit
theorem mok_Sort : MSemOk Tryd.prog DW 83 semSort := sort_m ⟨Tryd.f83, Tryd.func83, by kernel_rfl, by kernel_rfl⟩ Tryd.lays189 rfl
theorem mok_Compact : MSemOk Tryd.prog DW 84 semCompact := compact_m ⟨Tryd.f84, Tryd.func84, by kernel_rfl, by kernel_rfl⟩ Tryd.laysNm220 rfl
theorem mok_CompactO : MSemOk Tryd.prog DW 84 semCompactO := compactO_m ⟨Tryd.f84, Tryd.func84, by kernel_rfl, by kernel_rfl⟩ Tryd.laysNm220 rfl
theorem mok_Delete : MSemOk Tryd.prog DW 63 semDelete := delete_m ⟨Tryd.f63, Tryd.func63, by kernel_rfl, by kernel_rfl⟩ Tryd.laysNm223 rfl
end Go.Proofs.YtgfleiknigjnbaaDoor.Den
