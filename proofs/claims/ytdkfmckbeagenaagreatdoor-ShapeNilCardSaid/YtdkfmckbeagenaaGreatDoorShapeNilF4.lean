/-
  rosterlaw: closed facts of the row shapeNil, part 4: what the form asks of the program and of the row, limb by limb.
-/
import Derived.Test.YtdkfmckbeagenaaGreatDoorCards
import Derived.Test.YtdkfmckbeagenaaGreatDoorTie
import Derived.ProofKit
import Derived.JoinedCond
import Derived.KernelRfl
namespace Go.Proofs.YtdkfmckbeagenaaGreatDoor
open Go.ChangeShapes Go.WideShapes Go.ChangeAt Go.RowKit

theorem shapeNil_f22 : ((Rows.shapeNilRow.plainKeys == Tryz.pinned.checked.prog.plainKeys)) = true := by kernel_rfl
theorem shapeNil_f23 : (Rows.shapeNilRow.shortTexts.isNone) = true := by kernel_rfl
theorem shapeNil_f24 : (Tryz.pinned.checked.prog.stopsHeard) = true := by kernel_rfl
theorem shapeNil_f25 : (Tryz.pinned.checked.prog.mayEnter) = true := by kernel_rfl
theorem shapeNil_f26 : ((Rows.shapeNilRow.lifted == Tryz.pinned.checked.prog.liftsFinal)) = true := by kernel_rfl
theorem shapeNil_f27 : ((Tryz.pinned.checked.prog.make == some Rows.shapeNilRow.make)) = true := by kernel_rfl
theorem shapeNil_f28 : ((Rows.shapeNilRow.kinds == (if Rows.shapeNilRow.domain.isEmpty then [] else Tryz.f4.params.toList.map fun t => match Tryz.pinned.checked.prog.underlying t with | some (.int k) => some k | _ => none))) = true := by kernel_rfl
theorem shapeNil_f29 : ((Rows.shapeNilRow.pinned == Rows.shapeNilRow.pinnedBy)) = true := by kernel_rfl
theorem shapeNil_f30 : ((Rows.shapeNilRow.veiled == (Tryz.f4.params.toList ++ (OpenSpec.ofChange Rows.shapeNilSpec).bare.plain.varTypes Tryz.pinned.checked.prog ++ Tryz.f4.resultTypes.toList).any (Tryz.pinned.checked.prog.veiledRec ·))) = true := by kernel_rfl
theorem shapeNil_f31 : (Rows.shapeNilRow.veiledFits Tryz.pinned.checked.prog Tryz.f4.params.toList (Tryz.f4.params.toList ++ (OpenSpec.ofChange Rows.shapeNilSpec).bare.plain.varTypes Tryz.pinned.checked.prog ++ Tryz.f4.resultTypes.toList)) = true := by kernel_rfl
end Go.Proofs.YtdkfmckbeagenaaGreatDoor
