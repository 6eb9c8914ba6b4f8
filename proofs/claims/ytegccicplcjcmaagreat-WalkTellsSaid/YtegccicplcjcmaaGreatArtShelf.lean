/- The library's contracts of slices.Clone, Delete, Insert, BinarySearch and maps.Clone at this program: tables of numbers, the kernel's comparison of the bodies (as the shelf's tool prints them; the numbers are those of this seat). -/
import Derived.Shelf.Slices.Clone
import Derived.Shelf.Slices.Cells
import Derived.Shelf.Slices.Empties
import Derived.Shelf.Spec.SlicesInsert
import Derived.Shelf.Spec.SlicesInsertGrow
import Derived.Shelf.Spec.SearchS
import Derived.Shelf.SlMaps.Clone
import Derived.Test.YtegccicplcjcmaaGreatProg
namespace Go.Proofs.YtegccicplcjcmaaGreat
open Go Go.Proofs Go.Shelf
def bk_lays24_ren : Go.Shelf.Ren := ⟨fun | 24 => 48 | n => n, fun | 24 => 33 | 9 => 9 | 3 => 3 | 4 => 4 | 0 => 0 | n => n, fun | n => n⟩
theorem bk_lays24 : Go.Proofs.Lays2.n24 Tryz.prog bk_lays24_ren := {
  mixed := by kernel_rfl
  f24 := Tryz.func48.trans (congrArg some (by kernel_rfl))
  t0 := Tryz.underlying0
  a0 := Tryz.isAgg0
  z0 := Tryz.sizeOf0
  v0 := Tryz.zeroValue0
  t3 := Tryz.underlying3
  a3 := Tryz.isAgg3
  z3 := Tryz.sizeOf3
  v3 := Tryz.zeroValue3
  t4 := Tryz.underlying4
  a4 := Tryz.isAgg4
  z4 := Tryz.sizeOf4
  v4 := Tryz.zeroValue4
  t9 := Tryz.underlying9
  a9 := Tryz.isAgg9
  z9 := Tryz.sizeOf9
  v9 := Tryz.zeroValue9
  t24 := Tryz.underlying33
  a24 := Tryz.isAgg33
  z24 := Tryz.sizeOf33
  v24 := Tryz.zeroValue33
  i9 := by kernel_rfl }
def bk_lays22_ren : Go.Shelf.Ren := ⟨fun | 22 => 44 | 29 => 71 | 30 => 72 | 36 => 98 | 17 => 107 | n => n, fun | 24 => 33 | 9 => 9 | 3 => 3 | 4 => 4 | 0 => 0 | n => n, fun | n => n⟩
theorem bk_lays22 : Go.Proofs.Lays2.n22 Tryz.prog bk_lays22_ren := {
  mixed := by kernel_rfl
  f17 := Tryz.func107.trans (congrArg some (by kernel_rfl))
  f22 := Tryz.func44.trans (congrArg some (by kernel_rfl))
  f29 := Tryz.func71.trans (congrArg some (by kernel_rfl))
  f30 := Tryz.func72.trans (congrArg some (by kernel_rfl))
  f36 := Tryz.func98.trans (congrArg some (by kernel_rfl))
  t0 := Tryz.underlying0
  a0 := Tryz.isAgg0
  z0 := Tryz.sizeOf0
  v0 := Tryz.zeroValue0
  t3 := Tryz.underlying3
  a3 := Tryz.isAgg3
  z3 := Tryz.sizeOf3
  v3 := Tryz.zeroValue3
  t4 := Tryz.underlying4
  a4 := Tryz.isAgg4
  z4 := Tryz.sizeOf4
  v4 := Tryz.zeroValue4
  t9 := Tryz.underlying9
  a9 := Tryz.isAgg9
  z9 := Tryz.sizeOf9
  v9 := Tryz.zeroValue9
  t24 := Tryz.underlying33
  a24 := Tryz.isAgg33
  z24 := Tryz.sizeOf33
  v24 := Tryz.zeroValue33
  i9 := by kernel_rfl }
def bk_lays26_ren : Go.Shelf.Ren := ⟨fun | 26 => 70 | 33 => 96 | 34 => 97 | 38 => 106 | n => n, fun | 24 => 33 | 9 => 9 | 3 => 3 | 4 => 4 | 40 => 209 | 0 => 0 | n => n, fun | n => n⟩
theorem bk_lays26 : Go.Proofs.Lays2.n26 Tryz.prog bk_lays26_ren := {
  mixed := by kernel_rfl
  f26 := Tryz.func70.trans (congrArg some (by kernel_rfl))
  f33 := Tryz.func96.trans (congrArg some (by kernel_rfl))
  f34 := Tryz.func97.trans (congrArg some (by kernel_rfl))
  f38 := Tryz.func106.trans (congrArg some (by kernel_rfl))
  t0 := Tryz.underlying0
  a0 := Tryz.isAgg0
  z0 := Tryz.sizeOf0
  v0 := Tryz.zeroValue0
  t3 := Tryz.underlying3
  a3 := Tryz.isAgg3
  z3 := Tryz.sizeOf3
  v3 := Tryz.zeroValue3
  t4 := Tryz.underlying4
  a4 := Tryz.isAgg4
  z4 := Tryz.sizeOf4
  v4 := Tryz.zeroValue4
  t9 := Tryz.underlying9
  a9 := Tryz.isAgg9
  z9 := Tryz.sizeOf9
  v9 := Tryz.zeroValue9
  t24 := Tryz.underlying33
  a24 := Tryz.isAgg33
  z24 := Tryz.sizeOf33
  v24 := Tryz.zeroValue33
  t40 := Tryz.underlying209
  a40 := Tryz.isAgg209
  z40 := Tryz.sizeOf209
  v40 := Tryz.zeroValue209 }
end Go.Proofs.YtegccicplcjcmaaGreat
