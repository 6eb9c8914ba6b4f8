/- The library's contracts of slices.Clone, Delete, Insert, BinarySearch and maps.Clone at this program: tables of numbers, the kernel's comparison of the bodies (as the shelf's tool prints them; the numbers are those of this seat). -/
import Derived.Shelf.Slices.Clone
import Derived.Shelf.Slices.Cells
import Derived.Shelf.Slices.Empties
import Derived.Shelf.Spec.SlicesInsert
import Derived.Shelf.Spec.SlicesInsertGrow
import Derived.Shelf.Spec.SearchS
import Derived.Shelf.SlMaps.Clone
import Derived.Test.YtgfhaldfjnepmaaProg
namespace Go.Proofs.Ytgfhaldfjnepmaa
open Go Go.Proofs Go.Shelf
def bk_lays16_ren : Go.Shelf.Ren := ⟨fun | 16 => 73 | n => n, fun | 24 => 22 | 9 => 9 | 4 => 4 | n => n, fun | n => n⟩
theorem bk_lays16 : Go.Proofs.Lays2.n16 Try.prog bk_lays16_ren := {
  mixed := by kernel_rfl
  f16 := Try.func73.trans (congrArg some (by kernel_rfl))
  t4 := Try.underlying4
  a4 := Try.isAgg4
  z4 := Try.sizeOf4
  v4 := Try.zeroValue4
  t9 := Try.underlying9
  a9 := Try.isAgg9
  z9 := Try.sizeOf9
  v9 := Try.zeroValue9
  t24 := Try.underlying22
  a24 := Try.isAgg22
  z24 := Try.sizeOf22
  v24 := Try.zeroValue22
  i9 := by kernel_rfl }
def bk_lays24_ren : Go.Shelf.Ren := ⟨fun | 24 => 109 | n => n, fun | 24 => 22 | 9 => 9 | 3 => 3 | 4 => 4 | 0 => 0 | n => n, fun | n => n⟩
theorem bk_lays24 : Go.Proofs.Lays2.n24 Try.prog bk_lays24_ren := {
  mixed := by kernel_rfl
  f24 := Try.func109.trans (congrArg some (by kernel_rfl))
  t0 := Try.underlying0
  a0 := Try.isAgg0
  z0 := Try.sizeOf0
  v0 := Try.zeroValue0
  t3 := Try.underlying3
  a3 := Try.isAgg3
  z3 := Try.sizeOf3
  v3 := Try.zeroValue3
  t4 := Try.underlying4
  a4 := Try.isAgg4
  z4 := Try.sizeOf4
  v4 := Try.zeroValue4
  t9 := Try.underlying9
  a9 := Try.isAgg9
  z9 := Try.sizeOf9
  v9 := Try.zeroValue9
  t24 := Try.underlying22
  a24 := Try.isAgg22
  z24 := Try.sizeOf22
  v24 := Try.zeroValue22
  i9 := by kernel_rfl }
def bk_lays22_ren : Go.Shelf.Ren := ⟨fun | 22 => 110 | 29 => 134 | 30 => 135 | 36 => 145 | 17 => 147 | n => n, fun | 24 => 22 | 9 => 9 | 3 => 3 | 4 => 4 | 0 => 0 | n => n, fun | n => n⟩
theorem bk_lays22 : Go.Proofs.Lays2.n22 Try.prog bk_lays22_ren := {
  mixed := by kernel_rfl
  f17 := Try.func147.trans (congrArg some (by kernel_rfl))
  f22 := Try.func110.trans (congrArg some (by kernel_rfl))
  f29 := Try.func134.trans (congrArg some (by kernel_rfl))
  f30 := Try.func135.trans (congrArg some (by kernel_rfl))
  f36 := Try.func145.trans (congrArg some (by kernel_rfl))
  t0 := Try.underlying0
  a0 := Try.isAgg0
  z0 := Try.sizeOf0
  v0 := Try.zeroValue0
  t3 := Try.underlying3
  a3 := Try.isAgg3
  z3 := Try.sizeOf3
  v3 := Try.zeroValue3
  t4 := Try.underlying4
  a4 := Try.isAgg4
  z4 := Try.sizeOf4
  v4 := Try.zeroValue4
  t9 := Try.underlying9
  a9 := Try.isAgg9
  z9 := Try.sizeOf9
  v9 := Try.zeroValue9
  t24 := Try.underlying22
  a24 := Try.isAgg22
  z24 := Try.sizeOf22
  v24 := Try.zeroValue22
  i9 := by kernel_rfl }
def bk_lays26_ren : Go.Shelf.Ren := ⟨fun | 26 => 86 | 33 => 115 | 34 => 116 | 38 => 139 | n => n, fun | 24 => 22 | 9 => 9 | 3 => 3 | 4 => 4 | 40 => 131 | 0 => 0 | n => n, fun | n => n⟩
theorem bk_lays26 : Go.Proofs.Lays2.n26 Try.prog bk_lays26_ren := {
  mixed := by kernel_rfl
  f26 := Try.func86.trans (congrArg some (by kernel_rfl))
  f33 := Try.func115.trans (congrArg some (by kernel_rfl))
  f34 := Try.func116.trans (congrArg some (by kernel_rfl))
  f38 := Try.func139.trans (congrArg some (by kernel_rfl))
  t0 := Try.underlying0
  a0 := Try.isAgg0
  z0 := Try.sizeOf0
  v0 := Try.zeroValue0
  t3 := Try.underlying3
  a3 := Try.isAgg3
  z3 := Try.sizeOf3
  v3 := Try.zeroValue3
  t4 := Try.underlying4
  a4 := Try.isAgg4
  z4 := Try.sizeOf4
  v4 := Try.zeroValue4
  t9 := Try.underlying9
  a9 := Try.isAgg9
  z9 := Try.sizeOf9
  v9 := Try.zeroValue9
  t24 := Try.underlying22
  a24 := Try.isAgg22
  z24 := Try.sizeOf22
  v24 := Try.zeroValue22
  t40 := Try.underlying131
  a40 := Try.isAgg131
  z40 := Try.sizeOf131
  v40 := Try.zeroValue131 }
def bk_mclone_ren : Go.Shelf.Ren := ⟨fun | 5 => 74 | 7 => 108 | n => n, fun | 23 => 91 | 25 => 9 | 3 => 74 | 4 => 4 | 20 => 20 | n => n, fun | n => n⟩
theorem bk_mclone : Go.Proofs.SlLaysW.n5 Try.prog bk_mclone_ren := {
  mixed := by kernel_rfl
  f5 := ⟨Try.f74.name, by decide, Try.func74.trans (congrArg some (by kernel_rfl))⟩
  f7 := Try.func108.trans (congrArg some (by kernel_rfl))
  t4 := Try.underlying4
  a4 := Try.isAgg4
  z4 := Try.sizeOf4
  v4 := Try.zeroValue4
  t20 := Try.underlying20
  a20 := Try.isAgg20
  z20 := Try.sizeOf20
  v20 := Try.zeroValue20
  t23 := Try.underlying91
  a23 := Try.isAgg91
  z23 := Try.sizeOf91
  v23 := Try.zeroValue91 }
end Go.Proofs.Ytgfhaldfjnepmaa
