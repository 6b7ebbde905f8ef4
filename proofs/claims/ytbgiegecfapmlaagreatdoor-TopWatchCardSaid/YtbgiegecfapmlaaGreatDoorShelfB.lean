/-
  The library's insertionSortCmpFunc at edf.Left and at int, slices.Clone at edf.Left and at job.Job: their closures laid (printed by the kit's lay-shelf and lay-plain).
-/
import Derived.Shelf.SlSortCmp.InsertionK
import Derived.Shelf.SlSortCmp.Insertion1
import Derived.Shelf.SlicesE.Clone
import Derived.Ground.Names2Prog
import Derived.Ground.SlgnProg
import Derived.Test.YtbgiegecfapmlaaGreatDoorProg
namespace Go.Proofs
open Go.Shelf
def Tryz.laysInsL_ren : Go.Shelf.Ren := ⟨fun | 20 => 198 | n => n, fun | 24 => 207 | 22 => 205 | 3 => 3 | 25 => 298 | 4 => 4 | 0 => 0 | n => n, fun | n => n⟩
theorem Tryz.laysInsL : Go.Proofs.SlLaysF0.n20 Tryz.prog Tryz.laysInsL_ren := {
  mixed := by kernel_rfl
  f20 := ⟨Tryz.f198.name, by decide, Tryz.func198.trans (congrArg some (by kernel_rfl))⟩
  t0 := Tryz.underlying0
  a0 := Tryz.isAgg0
  z0 := Tryz.sizeOf0
  v0 := Tryz.zeroValue0
  t3 := Tryz.underlying3
  a3 := Tryz.isAgg3
  z3 := Tryz.sizeOf3
  v3 := Tryz.zeroValue3
  t4 := Tryz.underlying4
  a4 := Tryz.isAgg4
  z4 := Tryz.sizeOf4
  v4 := Tryz.zeroValue4
  t22 := Tryz.underlying205
  a22 := Tryz.isAgg205
  z22 := Tryz.sizeOf205
  v22 := Tryz.zeroValue205
  t25 := Tryz.underlying298
  a25 := Tryz.isAgg298
  z25 := Tryz.sizeOf298
  v25 := Tryz.zeroValue298 }
def Tryz.laysInsI_ren : Go.Shelf.Ren := ⟨fun | 20 => 121 | n => n, fun | 24 => 3 | 22 => 23 | 3 => 3 | 25 => 104 | 4 => 4 | 0 => 0 | n => n, fun | n => n⟩
theorem Tryz.laysInsI : Go.Proofs.SlLaysF.n20 Tryz.prog Tryz.laysInsI_ren := {
  mixed := by kernel_rfl
  f20 := ⟨Tryz.f121.name, by decide, Tryz.func121.trans (congrArg some (by kernel_rfl))⟩
  t0 := Tryz.underlying0
  a0 := Tryz.isAgg0
  z0 := Tryz.sizeOf0
  v0 := Tryz.zeroValue0
  t3 := Tryz.underlying3
  a3 := Tryz.isAgg3
  z3 := Tryz.sizeOf3
  v3 := Tryz.zeroValue3
  t4 := Tryz.underlying4
  a4 := Tryz.isAgg4
  z4 := Tryz.sizeOf4
  v4 := Tryz.zeroValue4
  t22 := Tryz.underlying23
  a22 := Tryz.isAgg23
  z22 := Tryz.sizeOf23
  v22 := Tryz.zeroValue23
  a24 := Tryz.isAgg3
  z24 := Tryz.sizeOf3
  t25 := Tryz.underlying104
  a25 := Tryz.isAgg104
  z25 := Tryz.sizeOf104
  v25 := Tryz.zeroValue104 }
def Tryz.laysCloneL_ren : Go.Shelf.Ren := ⟨fun | 41 => 165 | n => n, fun | 22 => 205 | 23 => 207 | 4 => 4 | n => n, fun | n => n⟩
theorem Tryz.laysCloneL : Go.Proofs.SlLaysE0.n41 Tryz.prog Tryz.laysCloneL_ren := {
  mixed := by kernel_rfl
  f41 := ⟨Tryz.f165.name, by decide, Tryz.func165.trans (congrArg some (by kernel_rfl))⟩
  t4 := Tryz.underlying4
  a4 := Tryz.isAgg4
  z4 := Tryz.sizeOf4
  v4 := Tryz.zeroValue4
  t22 := Tryz.underlying205
  a22 := Tryz.isAgg205
  z22 := Tryz.sizeOf205
  v22 := Tryz.zeroValue205 }
def Tryz.laysCloneJ_ren : Go.Shelf.Ren := ⟨fun | 41 => 28 | n => n, fun | 22 => 22 | 23 => 36 | 4 => 4 | n => n, fun | n => n⟩
theorem Tryz.laysCloneJ : Go.Proofs.SlLaysE0.n41 Tryz.prog Tryz.laysCloneJ_ren := {
  mixed := by kernel_rfl
  f41 := ⟨Tryz.f28.name, by decide, Tryz.func28.trans (congrArg some (by kernel_rfl))⟩
  t4 := Tryz.underlying4
  a4 := Tryz.isAgg4
  z4 := Tryz.sizeOf4
  v4 := Tryz.zeroValue4
  t22 := Tryz.underlying22
  a22 := Tryz.isAgg22
  z22 := Tryz.sizeOf22
  v22 := Tryz.zeroValue22 }
end Go.Proofs
