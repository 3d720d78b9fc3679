/-
  The tables of numbers of the library's contracts at this program (laid by the kit's tools).
-/
import Derived.Shelf.Lays2
import Derived.Test.YtiiadibbkijnhaaGreatDoorProg
namespace Go.Proofs.YtiiadibbkijnhaaGreatDoor
open Go.Shelf
def nm22_ren : Go.Shelf.Ren := ⟨fun | 22 => 82 | 29 => 115 | 30 => 116 | 36 => 166 | 17 => 228 | n => n, fun | 24 => 46 | 9 => 9 | 3 => 3 | 4 => 4 | 0 => 0 | n => n, fun | n => n⟩
theorem nm22 : Go.Proofs.Lays2.n22 Tryz.prog nm22_ren := {
  mixed := by kernel_rfl
  f17 := Tryz.func228.trans (congrArg some (by kernel_rfl))
  f22 := Tryz.func82.trans (congrArg some (by kernel_rfl))
  f29 := Tryz.func115.trans (congrArg some (by kernel_rfl))
  f30 := Tryz.func116.trans (congrArg some (by kernel_rfl))
  f36 := Tryz.func166.trans (congrArg some (by kernel_rfl))
  t0 := Tryz.underlying0
  a0 := Tryz.isAgg0
  z0 := Tryz.sizeOf0
  v0 := Tryz.zeroValue0
  t3 := Tryz.underlying3
  a3 := Tryz.isAgg3
  z3 := Tryz.sizeOf3
  v3 := Tryz.zeroValue3
  t4 := Tryz.underlying4
  a4 := Tryz.isAgg4
  z4 := Tryz.sizeOf4
  v4 := Tryz.zeroValue4
  t9 := Tryz.underlying9
  a9 := Tryz.isAgg9
  z9 := Tryz.sizeOf9
  v9 := Tryz.zeroValue9
  t24 := Tryz.underlying46
  a24 := Tryz.isAgg46
  z24 := Tryz.sizeOf46
  v24 := Tryz.zeroValue46
  i9 := by kernel_rfl }
end Go.Proofs.YtiiadibbkijnhaaGreatDoor
