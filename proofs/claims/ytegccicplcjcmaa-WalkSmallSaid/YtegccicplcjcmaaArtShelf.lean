/- The library's contracts of slices.Clone, Delete, Insert, BinarySearch and maps.Clone at this program: tables of numbers, the kernel's comparison of the bodies (as the shelf's tool prints them; the numbers are those of this seat). -/
import Derived.Shelf.Slices.Clone
import Derived.Shelf.Slices.Cells
import Derived.Shelf.Slices.Empties
import Derived.Shelf.Spec.SlicesInsert
import Derived.Shelf.Spec.SlicesInsertGrow
import Derived.Shelf.Spec.SearchS
import Derived.Shelf.SlMaps.Clone
import Derived.Test.YtegccicplcjcmaaProg
namespace Go.Proofs.Ytegccicplcjcmaa
open Go Go.Proofs Go.Shelf
def bk_lays16_ren : Go.Shelf.Ren := ⟨fun | 16 => 94 | n => n, fun | 24 => 22 | 9 => 9 | 4 => 4 | n => n, fun | n => n⟩
theorem bk_lays16 : Go.Proofs.Lays2.n16 Try.prog bk_lays16_ren := {
  mixed := by kernel_rfl
  f16 := Try.func94.trans (congrArg some (by kernel_rfl))
  t4 := Try.underlying4
  a4 := Try.isAgg4
  z4 := Try.sizeOf4
  v4 := Try.zeroValue4
  t9 := Try.underlying9
  a9 := Try.isAgg9
  z9 := Try.sizeOf9
  v9 := Try.zeroValue9
  t24 := Try.underlying22
  a24 := Try.isAgg22
  z24 := Try.sizeOf22
  v24 := Try.zeroValue22
  i9 := by kernel_rfl }
def bk_lays24_ren : Go.Shelf.Ren := ⟨fun | 24 => 92 | n => n, fun | 24 => 22 | 9 => 9 | 3 => 3 | 4 => 4 | 0 => 0 | n => n, fun | n => n⟩
theorem bk_lays24 : Go.Proofs.Lays2.n24 Try.prog bk_lays24_ren := {
  mixed := by kernel_rfl
  f24 := Try.func92.trans (congrArg some (by kernel_rfl))
  t0 := Try.underlying0
  a0 := Try.isAgg0
  z0 := Try.sizeOf0
  v0 := Try.zeroValue0
  t3 := Try.underlying3
  a3 := Try.isAgg3
  z3 := Try.sizeOf3
  v3 := Try.zeroValue3
  t4 := Try.underlying4
  a4 := Try.isAgg4
  z4 := Try.sizeOf4
  v4 := Try.zeroValue4
  t9 := Try.underlying9
  a9 := Try.isAgg9
  z9 := Try.sizeOf9
  v9 := Try.zeroValue9
  t24 := Try.underlying22
  a24 := Try.isAgg22
  z24 := Try.sizeOf22
  v24 := Try.zeroValue22
  i9 := by kernel_rfl }
def bk_lays22_ren : Go.Shelf.Ren := ⟨fun | 22 => 55 | 29 => 70 | 30 => 71 | 36 => 100 | 17 => 121 | n => n, fun | 24 => 22 | 9 => 9 | 3 => 3 | 4 => 4 | 0 => 0 | n => n, fun | n => n⟩
theorem bk_lays22 : Go.Proofs.Lays2.n22 Try.prog bk_lays22_ren := {
  mixed := by kernel_rfl
  f17 := Try.func121.trans (congrArg some (by kernel_rfl))
  f22 := Try.func55.trans (congrArg some (by kernel_rfl))
  f29 := Try.func70.trans (congrArg some (by kernel_rfl))
  f30 := Try.func71.trans (congrArg some (by kernel_rfl))
  f36 := Try.func100.trans (congrArg some (by kernel_rfl))
  t0 := Try.underlying0
  a0 := Try.isAgg0
  z0 := Try.sizeOf0
  v0 := Try.zeroValue0
  t3 := Try.underlying3
  a3 := Try.isAgg3
  z3 := Try.sizeOf3
  v3 := Try.zeroValue3
  t4 := Try.underlying4
  a4 := Try.isAgg4
  z4 := Try.sizeOf4
  v4 := Try.zeroValue4
  t9 := Try.underlying9
  a9 := Try.isAgg9
  z9 := Try.sizeOf9
  v9 := Try.zeroValue9
  t24 := Try.underlying22
  a24 := Try.isAgg22
  z24 := Try.sizeOf22
  v24 := Try.zeroValue22
  i9 := by kernel_rfl }
def bk_lays26_ren : Go.Shelf.Ren := ⟨fun | 26 => 69 | 33 => 98 | 34 => 99 | 38 => 120 | n => n, fun | 24 => 22 | 9 => 9 | 3 => 3 | 4 => 4 | 40 => 167 | 0 => 0 | n => n, fun | n => n⟩
theorem bk_lays26 : Go.Proofs.Lays2.n26 Try.prog bk_lays26_ren := {
  mixed := by kernel_rfl
  f26 := Try.func69.trans (congrArg some (by kernel_rfl))
  f33 := Try.func98.trans (congrArg some (by kernel_rfl))
  f34 := Try.func99.trans (congrArg some (by kernel_rfl))
  f38 := Try.func120.trans (congrArg some (by kernel_rfl))
  t0 := Try.underlying0
  a0 := Try.isAgg0
  z0 := Try.sizeOf0
  v0 := Try.zeroValue0
  t3 := Try.underlying3
  a3 := Try.isAgg3
  z3 := Try.sizeOf3
  v3 := Try.zeroValue3
  t4 := Try.underlying4
  a4 := Try.isAgg4
  z4 := Try.sizeOf4
  v4 := Try.zeroValue4
  t9 := Try.underlying9
  a9 := Try.isAgg9
  z9 := Try.sizeOf9
  v9 := Try.zeroValue9
  t24 := Try.underlying22
  a24 := Try.isAgg22
  z24 := Try.sizeOf22
  v24 := Try.zeroValue22
  t40 := Try.underlying167
  a40 := Try.isAgg167
  z40 := Try.sizeOf167
  v40 := Try.zeroValue167 }
def bk_mclone_ren : Go.Shelf.Ren := ⟨fun | 5 => 95 | 7 => 119 | n => n, fun | 23 => 37 | 25 => 9 | 3 => 74 | 4 => 4 | 20 => 20 | n => n, fun | n => n⟩
theorem bk_mclone : Go.Proofs.SlLaysW.n5 Try.prog bk_mclone_ren := {
  mixed := by kernel_rfl
  f5 := ⟨Try.f95.name, by decide, Try.func95.trans (congrArg some (by kernel_rfl))⟩
  f7 := Try.func119.trans (congrArg some (by kernel_rfl))
  t4 := Try.underlying4
  a4 := Try.isAgg4
  z4 := Try.sizeOf4
  v4 := Try.zeroValue4
  t20 := Try.underlying20
  a20 := Try.isAgg20
  z20 := Try.sizeOf20
  v20 := Try.zeroValue20
  t23 := Try.underlying37
  a23 := Try.isAgg37
  z23 := Try.sizeOf37
  v23 := Try.zeroValue37 }
end Go.Proofs.Ytegccicplcjcmaa
