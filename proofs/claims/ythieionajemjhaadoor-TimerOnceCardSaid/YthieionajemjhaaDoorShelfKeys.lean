/- The library's maps.Keys and slices.Collect at this program: tables of numbers and one comparison a function (printed by the kit's lay-plain tool). No condition. -/
import Derived.Shelf.SlLaysZI
import Derived.Test.YthieionajemjhaaDoorProg
namespace Go.Proofs
open Go.Shelf
def YthieionajemjhaaDoor.keysL_ren : Go.Shelf.Ren := ⟨fun | 7 => 70 | 10 => 81 | n => n, fun | 23 => 86 | 26 => 3 | 3 => 2 | 28 => 105 | 0 => 0 | 27 => 104 | 33 => 35 | 4 => 4 | n => n, fun | n => n⟩
theorem YthieionajemjhaaDoor.keysL : Go.Proofs.SlLaysZI.n7 Tryd.prog YthieionajemjhaaDoor.keysL_ren := {
  mixed := by kernel_rfl
  f7 := ⟨Tryd.f70.name, by decide, Tryd.func70.trans (congrArg some (by kernel_rfl))⟩
  f10 := ⟨Tryd.f81.name, by decide, Tryd.func81.trans (congrArg some (by kernel_rfl))⟩
  t0 := Tryd.underlying0
  a0 := Tryd.isAgg0
  z0 := Tryd.sizeOf0
  v0 := Tryd.zeroValue0
  t4 := Tryd.underlying4
  a4 := Tryd.isAgg4
  z4 := Tryd.sizeOf4
  v4 := Tryd.zeroValue4
  t23 := Tryd.underlying86
  a23 := Tryd.isAgg86
  z23 := Tryd.sizeOf86
  v23 := Tryd.zeroValue86
  t26 := Tryd.underlying3
  a26 := Tryd.isAgg3
  z26 := Tryd.sizeOf3
  v26 := Tryd.zeroValue3
  t27 := Tryd.underlying104
  a27 := Tryd.isAgg104
  z27 := Tryd.sizeOf104
  v27 := Tryd.zeroValue104
  t28 := Tryd.underlying105
  a28 := Tryd.isAgg105
  z28 := Tryd.sizeOf105
  v28 := Tryd.zeroValue105
  t33 := Tryd.underlying35
  a33 := Tryd.isAgg35
  z33 := Tryd.sizeOf35
  v33 := Tryd.zeroValue35 }
def YthieionajemjhaaDoor.collectL_ren : Go.Shelf.Ren := ⟨fun | 8 => 69 | 11 => 80 | n => n, fun | 26 => 3 | 28 => 105 | 24 => 49 | 0 => 0 | 33 => 35 | 4 => 4 | n => n, fun | n => n⟩
theorem YthieionajemjhaaDoor.collectL : Go.Proofs.SlLaysZI.n8 Tryd.prog YthieionajemjhaaDoor.collectL_ren := {
  mixed := by kernel_rfl
  f8 := ⟨Tryd.f69.name, by decide, Tryd.func69.trans (congrArg some (by kernel_rfl))⟩
  f11 := ⟨Tryd.f80.name, by decide, Tryd.func80.trans (congrArg some (by kernel_rfl))⟩
  t0 := Tryd.underlying0
  a0 := Tryd.isAgg0
  z0 := Tryd.sizeOf0
  v0 := Tryd.zeroValue0
  t24 := Tryd.underlying49
  a24 := Tryd.isAgg49
  z24 := Tryd.sizeOf49
  v24 := Tryd.zeroValue49
  t26 := Tryd.underlying3
  a26 := Tryd.isAgg3
  z26 := Tryd.sizeOf3
  v26 := Tryd.zeroValue3
  t28 := Tryd.underlying105
  a28 := Tryd.isAgg105
  z28 := Tryd.sizeOf105
  v28 := Tryd.zeroValue105
  i26 := by kernel_rfl }
end Go.Proofs
