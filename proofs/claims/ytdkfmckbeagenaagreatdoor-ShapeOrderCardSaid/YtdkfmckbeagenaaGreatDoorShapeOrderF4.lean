/-
  rosterlaw: closed facts of the row shapeOrder, part 4: what the form asks of the program and of the row, limb by limb.
-/
import Derived.Test.YtdkfmckbeagenaaGreatDoorCards
import Derived.Test.YtdkfmckbeagenaaGreatDoorTie
import Derived.ProofKit
import Derived.JoinedCond
import Derived.KernelRfl
namespace Go.Proofs.YtdkfmckbeagenaaGreatDoor
open Go.ChangeShapes Go.WideShapes Go.ChangeAt Go.RowKit

theorem shapeOrder_f22 : ((Rows.shapeOrderRow.plainKeys == Tryz.pinned.checked.prog.plainKeys)) = true := by kernel_rfl
theorem shapeOrder_f23 : (Rows.shapeOrderRow.shortTexts.isNone) = true := by kernel_rfl
theorem shapeOrder_f24 : (Tryz.pinned.checked.prog.stopsHeard) = true := by kernel_rfl
theorem shapeOrder_f25 : (Tryz.pinned.checked.prog.mayEnter) = true := by kernel_rfl
theorem shapeOrder_f26 : ((Rows.shapeOrderRow.lifted == Tryz.pinned.checked.prog.liftsFinal)) = true := by kernel_rfl
theorem shapeOrder_f27 : ((Tryz.pinned.checked.prog.make == some Rows.shapeOrderRow.make)) = true := by kernel_rfl
theorem shapeOrder_f28 : ((Rows.shapeOrderRow.kinds == (if Rows.shapeOrderRow.domain.isEmpty then [] else Tryz.f5.params.toList.map fun t => match Tryz.pinned.checked.prog.underlying t with | some (.int k) => some k | _ => none))) = true := by kernel_rfl
theorem shapeOrder_f29 : ((Rows.shapeOrderRow.pinned == Rows.shapeOrderRow.pinnedBy)) = true := by kernel_rfl
theorem shapeOrder_f30 : ((Rows.shapeOrderRow.veiled == (Tryz.f5.params.toList ++ (OpenSpec.ofChange Rows.shapeOrderSpec).bare.plain.varTypes Tryz.pinned.checked.prog ++ Tryz.f5.resultTypes.toList).any (Tryz.pinned.checked.prog.veiledRec ·))) = true := by kernel_rfl
theorem shapeOrder_f31 : (Rows.shapeOrderRow.veiledFits Tryz.pinned.checked.prog Tryz.f5.params.toList (Tryz.f5.params.toList ++ (OpenSpec.ofChange Rows.shapeOrderSpec).bare.plain.varTypes Tryz.pinned.checked.prog ++ Tryz.f5.resultTypes.toList)) = true := by kernel_rfl
end Go.Proofs.YtdkfmckbeagenaaGreatDoor
