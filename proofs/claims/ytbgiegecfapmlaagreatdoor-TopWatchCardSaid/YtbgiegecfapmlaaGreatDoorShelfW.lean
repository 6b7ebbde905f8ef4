/-
  slices.Clone at kernel.Watch: its closure laid.
-/
import Derived.Shelf.SlicesE.Clone
import Derived.Ground.SlgnProg
import Derived.Test.YtbgiegecfapmlaaGreatDoorProg
namespace Go.Proofs
open Go.Shelf
def Tryz.laysCloneW_ren : Go.Shelf.Ren := ⟨fun | 41 => 40 | n => n, fun | 22 => 59 | 23 => 58 | 4 => 4 | n => n, fun | n => n⟩
theorem Tryz.laysCloneW : Go.Proofs.SlLaysE0.n41 Tryz.prog Tryz.laysCloneW_ren := {
  mixed := by kernel_rfl
  f41 := ⟨Tryz.f40.name, by decide, Tryz.func40.trans (congrArg some (by kernel_rfl))⟩
  t4 := Tryz.underlying4
  a4 := Tryz.isAgg4
  z4 := Tryz.sizeOf4
  v4 := Tryz.zeroValue4
  t22 := Tryz.underlying59
  a22 := Tryz.isAgg59
  z22 := Tryz.sizeOf59
  v22 := Tryz.zeroValue59 }
end Go.Proofs
