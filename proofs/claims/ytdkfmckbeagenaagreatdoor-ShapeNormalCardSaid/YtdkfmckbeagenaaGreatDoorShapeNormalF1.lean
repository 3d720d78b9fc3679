/-
  rosterlaw: closed facts of the row shapeNormal, part 1: what the form asks of the program and of the row, limb by limb.
-/
import Derived.Test.YtdkfmckbeagenaaGreatDoorCards
import Derived.Test.YtdkfmckbeagenaaGreatDoorTie
import Derived.ProofKit
import Derived.JoinedCond
import Derived.KernelRfl
namespace Go.Proofs.YtdkfmckbeagenaaGreatDoor
open Go.ChangeShapes Go.WideShapes Go.ChangeAt Go.RowKit

theorem shapeNormal_f0 : (Rows.shapeNormalRow.wf (OpenSpec.ofChange (OpenSpec.ofChange Rows.shapeNormalSpec).bare)) = true := by kernel_rfl
theorem shapeNormal_f1 : (laidOutB Tryz.pinned.checked.prog) = true := by kernel_rfl
theorem shapeNormal_f2 : (mapsRowed Tryz.pinned.checked.prog) = true := by kernel_rfl
theorem shapeNormal_f3 : (Tryz.f3.params.all (Tryz.pinned.checked.prog.readableRec ·)) = true := by kernel_rfl
theorem shapeNormal_f4 : (namedTie Tryz.pinned.checked.prog Rows.shapeNormalRow.named (OpenSpec.ofChange Rows.shapeNormalSpec).bare.vars) = true := by kernel_rfl
theorem shapeNormal_f5 : ((Rows.shapeNormalRow.stops == [])) = true := by kernel_rfl
theorem shapeNormal_f6 : ((Tryz.pinned.checked.prog.stops == [])) = true := by kernel_rfl
theorem shapeNormal_f7 : ((Rows.shapeNormalRow.knobs == [])) = true := by kernel_rfl
theorem shapeNormal_f8 : ((Tryz.pinned.checked.prog.stopKnobs == [])) = true := by kernel_rfl
theorem shapeNormal_f9 : ((Rows.shapeNormalRow.inPlace == Tryz.pinned.checked.prog.inPlace 3)) = true := by kernel_rfl
end Go.Proofs.YtdkfmckbeagenaaGreatDoor
