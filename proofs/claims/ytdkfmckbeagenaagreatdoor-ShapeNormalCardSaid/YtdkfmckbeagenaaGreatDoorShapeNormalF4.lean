/-
  rosterlaw: closed facts of the row shapeNormal, part 4: what the form asks of the program and of the row, limb by limb.
-/
import Derived.Test.YtdkfmckbeagenaaGreatDoorCards
import Derived.Test.YtdkfmckbeagenaaGreatDoorTie
import Derived.ProofKit
import Derived.JoinedCond
import Derived.KernelRfl
namespace Go.Proofs.YtdkfmckbeagenaaGreatDoor
open Go.ChangeShapes Go.WideShapes Go.ChangeAt Go.RowKit

theorem shapeNormal_f22 : ((Rows.shapeNormalRow.plainKeys == Tryz.pinned.checked.prog.plainKeys)) = true := by kernel_rfl
theorem shapeNormal_f23 : (Rows.shapeNormalRow.shortTexts.isNone) = true := by kernel_rfl
theorem shapeNormal_f24 : (Tryz.pinned.checked.prog.stopsHeard) = true := by kernel_rfl
theorem shapeNormal_f25 : (Tryz.pinned.checked.prog.mayEnter) = true := by kernel_rfl
theorem shapeNormal_f26 : ((Rows.shapeNormalRow.lifted == Tryz.pinned.checked.prog.liftsFinal)) = true := by kernel_rfl
theorem shapeNormal_f27 : ((Tryz.pinned.checked.prog.make == some Rows.shapeNormalRow.make)) = true := by kernel_rfl
theorem shapeNormal_f29 : ((Rows.shapeNormalRow.pinned == Rows.shapeNormalRow.pinnedBy)) = true := by kernel_rfl
theorem shapeNormal_f30 : ((Rows.shapeNormalRow.veiled == (Tryz.f3.params.toList ++ (OpenSpec.ofChange Rows.shapeNormalSpec).bare.plain.varTypes Tryz.pinned.checked.prog ++ Tryz.f3.resultTypes.toList).any (Tryz.pinned.checked.prog.veiledRec ·))) = true := by kernel_rfl
theorem shapeNormal_f31 : (Rows.shapeNormalRow.veiledFits Tryz.pinned.checked.prog Tryz.f3.params.toList (Tryz.f3.params.toList ++ (OpenSpec.ofChange Rows.shapeNormalSpec).bare.plain.varTypes Tryz.pinned.checked.prog ++ Tryz.f3.resultTypes.toList)) = true := by kernel_rfl
end Go.Proofs.YtdkfmckbeagenaaGreatDoor
