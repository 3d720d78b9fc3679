/-
  rosterlaw: closed facts of the row shapeNil, part 1: what the form asks of the program and of the row, limb by limb.
-/
import Derived.Test.YtdkfmckbeagenaaGreatDoorCards
import Derived.Test.YtdkfmckbeagenaaGreatDoorTie
import Derived.ProofKit
import Derived.JoinedCond
import Derived.KernelRfl
namespace Go.Proofs.YtdkfmckbeagenaaGreatDoor
open Go.ChangeShapes Go.WideShapes Go.ChangeAt Go.RowKit

theorem shapeNil_f0 : (Rows.shapeNilRow.wf (OpenSpec.ofChange (OpenSpec.ofChange Rows.shapeNilSpec).bare)) = true := by kernel_rfl
theorem shapeNil_f1 : (laidOutB Tryz.pinned.checked.prog) = true := by kernel_rfl
theorem shapeNil_f2 : (mapsRowed Tryz.pinned.checked.prog) = true := by kernel_rfl
theorem shapeNil_f3 : (Tryz.f4.params.all (Tryz.pinned.checked.prog.readableRec ·)) = true := by kernel_rfl
theorem shapeNil_f4 : (namedTie Tryz.pinned.checked.prog Rows.shapeNilRow.named (OpenSpec.ofChange Rows.shapeNilSpec).bare.vars) = true := by kernel_rfl
theorem shapeNil_f5 : ((Rows.shapeNilRow.stops == [])) = true := by kernel_rfl
theorem shapeNil_f6 : ((Tryz.pinned.checked.prog.stops == [])) = true := by kernel_rfl
theorem shapeNil_f7 : ((Rows.shapeNilRow.knobs == [])) = true := by kernel_rfl
theorem shapeNil_f8 : ((Tryz.pinned.checked.prog.stopKnobs == [])) = true := by kernel_rfl
theorem shapeNil_f9 : ((Rows.shapeNilRow.inPlace == Tryz.pinned.checked.prog.inPlace 4)) = true := by kernel_rfl
end Go.Proofs.YtdkfmckbeagenaaGreatDoor
