/-
  rosterlaw: closed facts of the row shapeOrder, part 1: what the form asks of the program and of the row, limb by limb.
-/
import Derived.Test.YtdkfmckbeagenaaGreatDoorCards
import Derived.Test.YtdkfmckbeagenaaGreatDoorTie
import Derived.ProofKit
import Derived.JoinedCond
import Derived.KernelRfl
namespace Go.Proofs.YtdkfmckbeagenaaGreatDoor
open Go.ChangeShapes Go.WideShapes Go.ChangeAt Go.RowKit

theorem shapeOrder_f0 : (Rows.shapeOrderRow.wf (OpenSpec.ofChange (OpenSpec.ofChange Rows.shapeOrderSpec).bare)) = true := by kernel_rfl
theorem shapeOrder_f1 : (laidOutB Tryz.pinned.checked.prog) = true := by kernel_rfl
theorem shapeOrder_f2 : (mapsRowed Tryz.pinned.checked.prog) = true := by kernel_rfl
theorem shapeOrder_f3 : (Tryz.f5.params.all (Tryz.pinned.checked.prog.readableRec ·)) = true := by kernel_rfl
theorem shapeOrder_f4 : (namedTie Tryz.pinned.checked.prog Rows.shapeOrderRow.named (OpenSpec.ofChange Rows.shapeOrderSpec).bare.vars) = true := by kernel_rfl
theorem shapeOrder_f5 : ((Rows.shapeOrderRow.stops == [])) = true := by kernel_rfl
theorem shapeOrder_f6 : ((Tryz.pinned.checked.prog.stops == [])) = true := by kernel_rfl
theorem shapeOrder_f7 : ((Rows.shapeOrderRow.knobs == [])) = true := by kernel_rfl
theorem shapeOrder_f8 : ((Tryz.pinned.checked.prog.stopKnobs == [])) = true := by kernel_rfl
theorem shapeOrder_f9 : ((Rows.shapeOrderRow.inPlace == Tryz.pinned.checked.prog.inPlace 5)) = true := by kernel_rfl
end Go.Proofs.YtdkfmckbeagenaaGreatDoor
