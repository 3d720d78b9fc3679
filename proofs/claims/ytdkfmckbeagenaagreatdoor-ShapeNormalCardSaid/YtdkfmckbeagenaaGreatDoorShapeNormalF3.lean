/-
  rosterlaw: closed facts of the row shapeNormal, part 3: what the form asks of the program and of the row, limb by limb.
-/
import Derived.Test.YtdkfmckbeagenaaGreatDoorCards
import Derived.Test.YtdkfmckbeagenaaGreatDoorTie
import Derived.ProofKit
import Derived.JoinedCond
import Derived.KernelRfl
namespace Go.Proofs.YtdkfmckbeagenaaGreatDoor
open Go.ChangeShapes Go.WideShapes Go.ChangeAt Go.RowKit

theorem shapeNormal_f12 : ((Rows.shapeNormalRow.named == Tryz.pinned.checked.prog.varsNamed 3)) = true := by kernel_rfl
theorem shapeNormal_f13 : ((Rows.shapeNormalRow.maps == (Tryz.f3.params.toList ++ (OpenSpec.ofChange Rows.shapeNormalSpec).bare.plain.varTypes Tryz.pinned.checked.prog).any (Tryz.pinned.checked.prog.mapsRec ·))) = true := by kernel_rfl
theorem shapeNormal_f14 : ((Rows.shapeNormalRow.ifaces == (Tryz.f3.params.toList ++ (OpenSpec.ofChange Rows.shapeNormalSpec).bare.plain.varTypes Tryz.pinned.checked.prog).any (Tryz.pinned.checked.prog.ifacesRec ·))) = true := by kernel_rfl
theorem shapeNormal_f15 : ((Rows.shapeNormalRow.mapsOut == Tryz.pinned.checked.prog.mapsAmong Tryz.f3.resultTypes.toList)) = true := by kernel_rfl
theorem shapeNormal_f16 : ((Rows.shapeNormalRow.loops == (Tryz.f3.params.toList ++ (OpenSpec.ofChange Rows.shapeNormalSpec).bare.plain.varTypes Tryz.pinned.checked.prog).any (Tryz.pinned.checked.prog.loopsFrom ·))) = true := by kernel_rfl
theorem shapeNormal_f17 : ((Rows.shapeNormalRow.wideKeys == (Tryz.f3.params.toList ++ (OpenSpec.ofChange Rows.shapeNormalSpec).bare.plain.varTypes Tryz.pinned.checked.prog ++ Tryz.f3.resultTypes.toList).any (Tryz.pinned.checked.prog.wideKeysFrom ·))) = true := by kernel_rfl
theorem shapeNormal_f18 : ((OpenSpec.ofChange Rows.shapeNormalSpec).bare.vars.all (Tryz.pinned.checked.prog.varReadable ·)) = true := by kernel_rfl
theorem shapeNormal_f19 : (Tryz.f3.resultTypes.all (fun t => Tryz.pinned.checked.prog.readableRec t && decide (t < Tryz.pinned.checked.prog.types.size))) = true := by kernel_rfl
theorem shapeNormal_f20 : ((Rows.shapeNormalRow.ifacesOut == Tryz.f3.resultTypes.toList.any (Tryz.pinned.checked.prog.ifacesRec ·))) = true := by kernel_rfl
theorem shapeNormal_f21 : ((Rows.shapeNormalRow.loopsOut == Tryz.f3.resultTypes.toList.any (Tryz.pinned.checked.prog.loopsFrom ·))) = true := by kernel_rfl
end Go.Proofs.YtdkfmckbeagenaaGreatDoor
