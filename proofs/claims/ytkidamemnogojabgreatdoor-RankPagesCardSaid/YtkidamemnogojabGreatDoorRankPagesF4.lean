/-
  rosterlaw: closed facts of the row rankPages, part 4: what the form asks of the program and of the row, limb by limb.
-/
import Derived.Test.YtkidamemnogojabGreatDoorCards
import Derived.Test.YtkidamemnogojabGreatDoorTie
import Derived.ProofKit
import Derived.JoinedCond
import Derived.KernelRfl
namespace Go.Proofs.YtkidamemnogojabGreatDoor
open Go.ChangeShapes Go.WideShapes Go.ChangeAt Go.RowKit

theorem rankPages_f22 : ((Rows.rankPagesRow.plainKeys == Tryz.pinned.checked.prog.plainKeys)) = true := by kernel_rfl
theorem rankPages_f23 : (Rows.rankPagesRow.shortTexts.isNone) = true := by kernel_rfl
theorem rankPages_f24 : (Tryz.pinned.checked.prog.stopsHeard) = true := by kernel_rfl
theorem rankPages_f25 : (Tryz.pinned.checked.prog.mayEnter) = true := by kernel_rfl
theorem rankPages_f26 : ((Rows.rankPagesRow.lifted == Tryz.pinned.checked.prog.liftsFinal)) = true := by kernel_rfl
theorem rankPages_f27 : ((Tryz.pinned.checked.prog.make == some Rows.rankPagesRow.make)) = true := by kernel_rfl
theorem rankPages_f28 : ((Rows.rankPagesRow.kinds == (if Rows.rankPagesRow.domain.isEmpty then [] else Tryz.f3.params.toList.map fun t => match Tryz.pinned.checked.prog.underlying t with | some (.int k) => some k | _ => none))) = true := by kernel_rfl
theorem rankPages_f29 : ((Rows.rankPagesRow.pinned == Rows.rankPagesRow.pinnedBy)) = true := by kernel_rfl
theorem rankPages_f30 : ((Rows.rankPagesRow.veiled == (Tryz.f3.params.toList ++ (OpenSpec.ofChange Rows.rankPagesSpec).bare.plain.varTypes Tryz.pinned.checked.prog ++ Tryz.f3.resultTypes.toList).any (Tryz.pinned.checked.prog.veiledRec ·))) = true := by kernel_rfl
theorem rankPages_f31 : (Rows.rankPagesRow.veiledFits Tryz.pinned.checked.prog Tryz.f3.params.toList (Tryz.f3.params.toList ++ (OpenSpec.ofChange Rows.rankPagesSpec).bare.plain.varTypes Tryz.pinned.checked.prog ++ Tryz.f3.resultTypes.toList)) = true := by kernel_rfl
end Go.Proofs.YtkidamemnogojabGreatDoor
