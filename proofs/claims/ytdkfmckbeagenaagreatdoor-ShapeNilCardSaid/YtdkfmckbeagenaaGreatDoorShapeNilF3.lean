/-
  rosterlaw: closed facts of the row shapeNil, part 3: what the form asks of the program and of the row, limb by limb.
-/
import Derived.Test.YtdkfmckbeagenaaGreatDoorCards
import Derived.Test.YtdkfmckbeagenaaGreatDoorTie
import Derived.ProofKit
import Derived.JoinedCond
import Derived.KernelRfl
namespace Go.Proofs.YtdkfmckbeagenaaGreatDoor
open Go.ChangeShapes Go.WideShapes Go.ChangeAt Go.RowKit

theorem shapeNil_f12 : ((Rows.shapeNilRow.named == Tryz.pinned.checked.prog.varsNamed 4)) = true := by kernel_rfl
theorem shapeNil_f13 : ((Rows.shapeNilRow.maps == (Tryz.f4.params.toList ++ (OpenSpec.ofChange Rows.shapeNilSpec).bare.plain.varTypes Tryz.pinned.checked.prog).any (Tryz.pinned.checked.prog.mapsRec ·))) = true := by kernel_rfl
theorem shapeNil_f14 : ((Rows.shapeNilRow.ifaces == (Tryz.f4.params.toList ++ (OpenSpec.ofChange Rows.shapeNilSpec).bare.plain.varTypes Tryz.pinned.checked.prog).any (Tryz.pinned.checked.prog.ifacesRec ·))) = true := by kernel_rfl
theorem shapeNil_f15 : ((Rows.shapeNilRow.mapsOut == Tryz.pinned.checked.prog.mapsAmong Tryz.f4.resultTypes.toList)) = true := by kernel_rfl
theorem shapeNil_f16 : ((Rows.shapeNilRow.loops == (Tryz.f4.params.toList ++ (OpenSpec.ofChange Rows.shapeNilSpec).bare.plain.varTypes Tryz.pinned.checked.prog).any (Tryz.pinned.checked.prog.loopsFrom ·))) = true := by kernel_rfl
theorem shapeNil_f17 : ((Rows.shapeNilRow.wideKeys == (Tryz.f4.params.toList ++ (OpenSpec.ofChange Rows.shapeNilSpec).bare.plain.varTypes Tryz.pinned.checked.prog ++ Tryz.f4.resultTypes.toList).any (Tryz.pinned.checked.prog.wideKeysFrom ·))) = true := by kernel_rfl
theorem shapeNil_f18 : ((OpenSpec.ofChange Rows.shapeNilSpec).bare.vars.all (Tryz.pinned.checked.prog.varReadable ·)) = true := by kernel_rfl
theorem shapeNil_f19 : (Tryz.f4.resultTypes.all (fun t => Tryz.pinned.checked.prog.readableRec t && decide (t < Tryz.pinned.checked.prog.types.size))) = true := by kernel_rfl
theorem shapeNil_f20 : ((Rows.shapeNilRow.ifacesOut == Tryz.f4.resultTypes.toList.any (Tryz.pinned.checked.prog.ifacesRec ·))) = true := by kernel_rfl
theorem shapeNil_f21 : ((Rows.shapeNilRow.loopsOut == Tryz.f4.resultTypes.toList.any (Tryz.pinned.checked.prog.loopsFrom ·))) = true := by kernel_rfl
end Go.Proofs.YtdkfmckbeagenaaGreatDoor
