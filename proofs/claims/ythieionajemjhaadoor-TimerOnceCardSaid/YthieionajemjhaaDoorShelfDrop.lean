/- The library's slices.DeleteFunc at this program: tables of numbers and one comparison a function (printed by the kit's lay-plain tool). No condition. -/
import Derived.Shelf.SlLaysH
import Derived.Test.YthieionajemjhaaDoorProg
namespace Go.Proofs
open Go.Shelf
def YthieionajemjhaaDoor.dropL_ren : Go.Shelf.Ren := ⟨fun | 10 => 59 | 6 => 72 | n => n, fun | 22 => 49 | 23 => 3 | 25 => 35 | 3 => 3 | 4 => 4 | 0 => 0 | n => n, fun | n => n⟩
theorem YthieionajemjhaaDoor.dropL : Go.Proofs.SlLaysH.n10 Tryd.prog YthieionajemjhaaDoor.dropL_ren := {
  mixed := by kernel_rfl
  f6 := ⟨Tryd.f72.name, by decide, Tryd.func72.trans (congrArg some (by kernel_rfl))⟩
  f10 := ⟨Tryd.f59.name, by decide, Tryd.func59.trans (congrArg some (by kernel_rfl))⟩
  t0 := Tryd.underlying0
  a0 := Tryd.isAgg0
  z0 := Tryd.sizeOf0
  v0 := Tryd.zeroValue0
  t3 := Tryd.underlying3
  a3 := Tryd.isAgg3
  z3 := Tryd.sizeOf3
  v3 := Tryd.zeroValue3
  t4 := Tryd.underlying4
  a4 := Tryd.isAgg4
  z4 := Tryd.sizeOf4
  v4 := Tryd.zeroValue4
  t22 := Tryd.underlying49
  a22 := Tryd.isAgg49
  z22 := Tryd.sizeOf49
  v22 := Tryd.zeroValue49
  a23 := Tryd.isAgg3
  z23 := Tryd.sizeOf3
  t25 := Tryd.underlying35
  a25 := Tryd.isAgg35
  z25 := Tryd.sizeOf35
  v25 := Tryd.zeroValue35 }
end Go.Proofs
