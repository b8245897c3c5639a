/- The library's slices.DeleteFunc at this program: a table of numbers and one comparison a function (printed by the kit's lay-plain tool). No condition. -/
import Derived.Shelf.SlLaysH
import Derived.Test.YtbelcmiljjndaaaProg
namespace Go.Proofs
open Go.Shelf
def Ytbelcmiljjndaaa.dropL_ren : Go.Shelf.Ren := ⟨fun | 10 => 96 | 6 => 111 | n => n, fun | 22 => 22 | 23 => 3 | 25 => 56 | 3 => 3 | 4 => 4 | 0 => 0 | n => n, fun | n => n⟩
theorem Ytbelcmiljjndaaa.dropL : Go.Proofs.SlLaysH.n10 Try.prog Ytbelcmiljjndaaa.dropL_ren := {
  mixed := by kernel_rfl
  f6 := ⟨Try.f111.name, by decide, Try.func111.trans (congrArg some (by kernel_rfl))⟩
  f10 := ⟨Try.f96.name, by decide, Try.func96.trans (congrArg some (by kernel_rfl))⟩
  t0 := Try.underlying0
  a0 := Try.isAgg0
  z0 := Try.sizeOf0
  v0 := Try.zeroValue0
  t3 := Try.underlying3
  a3 := Try.isAgg3
  z3 := Try.sizeOf3
  v3 := Try.zeroValue3
  t4 := Try.underlying4
  a4 := Try.isAgg4
  z4 := Try.sizeOf4
  v4 := Try.zeroValue4
  t22 := Try.underlying22
  a22 := Try.isAgg22
  z22 := Try.sizeOf22
  v22 := Try.zeroValue22
  a23 := Try.isAgg3
  z23 := Try.sizeOf3
  t25 := Try.underlying56
  a25 := Try.isAgg56
  z25 := Try.sizeOf56
  v25 := Try.zeroValue56 }
end Go.Proofs
