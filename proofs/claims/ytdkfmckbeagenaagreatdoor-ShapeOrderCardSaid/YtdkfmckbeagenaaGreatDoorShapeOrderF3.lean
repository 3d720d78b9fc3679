/-
  rosterlaw: closed facts of the row shapeOrder, part 3: what the form asks of the program and of the row, limb by limb.
-/
import Derived.Test.YtdkfmckbeagenaaGreatDoorCards
import Derived.Test.YtdkfmckbeagenaaGreatDoorTie
import Derived.ProofKit
import Derived.JoinedCond
import Derived.KernelRfl
namespace Go.Proofs.YtdkfmckbeagenaaGreatDoor
open Go.ChangeShapes Go.WideShapes Go.ChangeAt Go.RowKit

theorem shapeOrder_f12 : ((Rows.shapeOrderRow.named == Tryz.pinned.checked.prog.varsNamed 5)) = true := by kernel_rfl
theorem shapeOrder_f13 : ((Rows.shapeOrderRow.maps == (Tryz.f5.params.toList ++ (OpenSpec.ofChange Rows.shapeOrderSpec).bare.plain.varTypes Tryz.pinned.checked.prog).any (Tryz.pinned.checked.prog.mapsRec ·))) = true := by kernel_rfl
theorem shapeOrder_f14 : ((Rows.shapeOrderRow.ifaces == (Tryz.f5.params.toList ++ (OpenSpec.ofChange Rows.shapeOrderSpec).bare.plain.varTypes Tryz.pinned.checked.prog).any (Tryz.pinned.checked.prog.ifacesRec ·))) = true := by kernel_rfl
theorem shapeOrder_f15 : ((Rows.shapeOrderRow.mapsOut == Tryz.pinned.checked.prog.mapsAmong Tryz.f5.resultTypes.toList)) = true := by kernel_rfl
theorem shapeOrder_f16 : ((Rows.shapeOrderRow.loops == (Tryz.f5.params.toList ++ (OpenSpec.ofChange Rows.shapeOrderSpec).bare.plain.varTypes Tryz.pinned.checked.prog).any (Tryz.pinned.checked.prog.loopsFrom ·))) = true := by kernel_rfl
theorem shapeOrder_f17 : ((Rows.shapeOrderRow.wideKeys == (Tryz.f5.params.toList ++ (OpenSpec.ofChange Rows.shapeOrderSpec).bare.plain.varTypes Tryz.pinned.checked.prog ++ Tryz.f5.resultTypes.toList).any (Tryz.pinned.checked.prog.wideKeysFrom ·))) = true := by kernel_rfl
theorem shapeOrder_f18 : ((OpenSpec.ofChange Rows.shapeOrderSpec).bare.vars.all (Tryz.pinned.checked.prog.varReadable ·)) = true := by kernel_rfl
theorem shapeOrder_f19 : (Tryz.f5.resultTypes.all (fun t => Tryz.pinned.checked.prog.readableRec t && decide (t < Tryz.pinned.checked.prog.types.size))) = true := by kernel_rfl
theorem shapeOrder_f20 : ((Rows.shapeOrderRow.ifacesOut == Tryz.f5.resultTypes.toList.any (Tryz.pinned.checked.prog.ifacesRec ·))) = true := by kernel_rfl
theorem shapeOrder_f21 : ((Rows.shapeOrderRow.loopsOut == Tryz.f5.resultTypes.toList.any (Tryz.pinned.checked.prog.loopsFrom ·))) = true := by kernel_rfl
end Go.Proofs.YtdkfmckbeagenaaGreatDoor
