/- The laying of slices.insertionSortCmpFunc at moves. No condition. -/
import Derived.Shelf.SlLaysF0
import Derived.Test.YtkjgcmdabelohaaGreatProg
namespace Go.Proofs
open Go.Shelf
def Tryz.moveL_ren : Go.Shelf.Ren := ⟨fun | 20 => 88 | n => n, fun | 22 => 38 | 24 => 78 | 25 => 112 | 3 => 3 | 0 => 0 | 4 => 4 | n => n, fun | n => n⟩
theorem Tryz.moveL : Go.Proofs.SlLaysF0.n20 Tryz.prog Tryz.moveL_ren := {
  mixed := by kernel_rfl
  f20 := ⟨Tryz.f88.name, by decide, Tryz.func88.trans (congrArg some (by kernel_rfl))⟩
  t0 := Tryz.underlying0
  a0 := Tryz.isAgg0
  z0 := Tryz.sizeOf0
  v0 := Tryz.zeroValue0
  t3 := Tryz.underlying3
  a3 := Tryz.isAgg3
  z3 := Tryz.sizeOf3
  v3 := Tryz.zeroValue3
  t4 := Tryz.underlying4
  a4 := Tryz.isAgg4
  z4 := Tryz.sizeOf4
  v4 := Tryz.zeroValue4
  t22 := Tryz.underlying38
  a22 := Tryz.isAgg38
  z22 := Tryz.sizeOf38
  v22 := Tryz.zeroValue38
  t25 := Tryz.underlying112
  a25 := Tryz.isAgg112
  z25 := Tryz.sizeOf112
  v25 := Tryz.zeroValue112 }
end Go.Proofs
