/-
  rosterlaw: closed facts of the row rankWhole, part 4: what the form asks of the program and of the row, limb by limb.
-/
import Derived.Test.YtkidamemnogojabGreatDoorCards
import Derived.Test.YtkidamemnogojabGreatDoorTie
import Derived.ProofKit
import Derived.JoinedCond
import Derived.KernelRfl
namespace Go.Proofs.YtkidamemnogojabGreatDoor
open Go.ChangeShapes Go.WideShapes Go.ChangeAt Go.RowKit

theorem rankWhole_f22 : ((Rows.rankWholeRow.plainKeys == Tryz.pinned.checked.prog.plainKeys)) = true := by kernel_rfl
theorem rankWhole_f23 : (Rows.rankWholeRow.shortTexts.isNone) = true := by kernel_rfl
theorem rankWhole_f24 : (Tryz.pinned.checked.prog.stopsHeard) = true := by kernel_rfl
theorem rankWhole_f25 : (Tryz.pinned.checked.prog.mayEnter) = true := by kernel_rfl
theorem rankWhole_f26 : ((Rows.rankWholeRow.lifted == Tryz.pinned.checked.prog.liftsFinal)) = true := by kernel_rfl
theorem rankWhole_f27 : ((Tryz.pinned.checked.prog.make == some Rows.rankWholeRow.make)) = true := by kernel_rfl
theorem rankWhole_f28 : ((Rows.rankWholeRow.kinds == (if Rows.rankWholeRow.domain.isEmpty then [] else Tryz.f4.params.toList.map fun t => match Tryz.pinned.checked.prog.underlying t with | some (.int k) => some k | _ => none))) = true := by kernel_rfl
theorem rankWhole_f29 : ((Rows.rankWholeRow.pinned == Rows.rankWholeRow.pinnedBy)) = true := by kernel_rfl
theorem rankWhole_f30 : ((Rows.rankWholeRow.veiled == (Tryz.f4.params.toList ++ (OpenSpec.ofChange Rows.rankWholeSpec).bare.plain.varTypes Tryz.pinned.checked.prog ++ Tryz.f4.resultTypes.toList).any (Tryz.pinned.checked.prog.veiledRec ·))) = true := by kernel_rfl
theorem rankWhole_f31 : (Rows.rankWholeRow.veiledFits Tryz.pinned.checked.prog Tryz.f4.params.toList (Tryz.f4.params.toList ++ (OpenSpec.ofChange Rows.rankWholeSpec).bare.plain.varTypes Tryz.pinned.checked.prog ++ Tryz.f4.resultTypes.toList)) = true := by kernel_rfl
end Go.Proofs.YtkidamemnogojabGreatDoor
