/- The library's maps.Keys and slices.Collect at this program: tables of numbers and one comparison a function (printed by the kit's lay-plain tool). No condition. -/
import Derived.Shelf.SlLaysZI
import Derived.Test.YtbelcmiljjndaaaProg
namespace Go.Proofs
open Go.Shelf
def Ytbelcmiljjndaaa.keysL_ren : Go.Shelf.Ren := ⟨fun | 7 => 100 | 10 => 113 | n => n, fun | 23 => 113 | 26 => 3 | 3 => 2 | 28 => 130 | 0 => 0 | 27 => 129 | 33 => 56 | 4 => 4 | n => n, fun | n => n⟩
theorem Ytbelcmiljjndaaa.keysL : Go.Proofs.SlLaysZI.n7 Try.prog Ytbelcmiljjndaaa.keysL_ren := {
  mixed := by kernel_rfl
  f7 := ⟨Try.f100.name, by decide, Try.func100.trans (congrArg some (by kernel_rfl))⟩
  f10 := ⟨Try.f113.name, by decide, Try.func113.trans (congrArg some (by kernel_rfl))⟩
  t0 := Try.underlying0
  a0 := Try.isAgg0
  z0 := Try.sizeOf0
  v0 := Try.zeroValue0
  t4 := Try.underlying4
  a4 := Try.isAgg4
  z4 := Try.sizeOf4
  v4 := Try.zeroValue4
  t23 := Try.underlying113
  a23 := Try.isAgg113
  z23 := Try.sizeOf113
  v23 := Try.zeroValue113
  t26 := Try.underlying3
  a26 := Try.isAgg3
  z26 := Try.sizeOf3
  v26 := Try.zeroValue3
  t27 := Try.underlying129
  a27 := Try.isAgg129
  z27 := Try.sizeOf129
  v27 := Try.zeroValue129
  t28 := Try.underlying130
  a28 := Try.isAgg130
  z28 := Try.sizeOf130
  v28 := Try.zeroValue130
  t33 := Try.underlying56
  a33 := Try.isAgg56
  z33 := Try.sizeOf56
  v33 := Try.zeroValue56 }
def Ytbelcmiljjndaaa.collectL_ren : Go.Shelf.Ren := ⟨fun | 8 => 99 | 11 => 112 | n => n, fun | 26 => 3 | 28 => 130 | 24 => 22 | 0 => 0 | 33 => 56 | 4 => 4 | n => n, fun | n => n⟩
theorem Ytbelcmiljjndaaa.collectL : Go.Proofs.SlLaysZI.n8 Try.prog Ytbelcmiljjndaaa.collectL_ren := {
  mixed := by kernel_rfl
  f8 := ⟨Try.f99.name, by decide, Try.func99.trans (congrArg some (by kernel_rfl))⟩
  f11 := ⟨Try.f112.name, by decide, Try.func112.trans (congrArg some (by kernel_rfl))⟩
  t0 := Try.underlying0
  a0 := Try.isAgg0
  z0 := Try.sizeOf0
  v0 := Try.zeroValue0
  t24 := Try.underlying22
  a24 := Try.isAgg22
  z24 := Try.sizeOf22
  v24 := Try.zeroValue22
  t26 := Try.underlying3
  a26 := Try.isAgg3
  z26 := Try.sizeOf3
  v26 := Try.zeroValue3
  t28 := Try.underlying130
  a28 := Try.isAgg130
  z28 := Try.sizeOf130
  v28 := Try.zeroValue130
  i26 := by kernel_rfl }
end Go.Proofs
