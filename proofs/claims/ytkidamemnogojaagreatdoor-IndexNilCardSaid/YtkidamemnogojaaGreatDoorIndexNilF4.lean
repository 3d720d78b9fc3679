/-
  rosterlaw: closed facts of the row indexNil, part 4: what the form asks of the program and of the row, limb by limb.
-/
import Derived.Test.YtkidamemnogojaaGreatDoorCards
import Derived.Test.YtkidamemnogojaaGreatDoorTie
import Derived.ProofKit
import Derived.JoinedCond
import Derived.KernelRfl
namespace Go.Proofs.YtkidamemnogojaaGreatDoor
open Go.ChangeShapes Go.WideShapes Go.ChangeAt Go.RowKit

theorem indexNil_f22 : ((Rows.indexNilRow.plainKeys == Tryz.pinned.checked.prog.plainKeys)) = true := by kernel_rfl
theorem indexNil_f23 : (Rows.indexNilRow.shortTexts.isNone) = true := by kernel_rfl
theorem indexNil_f24 : (Tryz.pinned.checked.prog.stopsHeard) = true := by kernel_rfl
theorem indexNil_f25 : (Tryz.pinned.checked.prog.mayEnter) = true := by kernel_rfl
theorem indexNil_f26 : ((Rows.indexNilRow.lifted == Tryz.pinned.checked.prog.liftsFinal)) = true := by kernel_rfl
theorem indexNil_f27 : ((Tryz.pinned.checked.prog.make == some Rows.indexNilRow.make)) = true := by kernel_rfl
theorem indexNil_f28 : ((Rows.indexNilRow.kinds == (if Rows.indexNilRow.domain.isEmpty then [] else Tryz.f3.params.toList.map fun t => match Tryz.pinned.checked.prog.underlying t with | some (.int k) => some k | _ => none))) = true := by kernel_rfl
theorem indexNil_f29 : ((Rows.indexNilRow.pinned == Rows.indexNilRow.pinnedBy)) = true := by kernel_rfl
theorem indexNil_f30 : ((Rows.indexNilRow.veiled == (Tryz.f3.params.toList ++ (OpenSpec.ofChange Rows.indexNilSpec).bare.plain.varTypes Tryz.pinned.checked.prog ++ Tryz.f3.resultTypes.toList).any (Tryz.pinned.checked.prog.veiledRec ·))) = true := by kernel_rfl
theorem indexNil_f31 : (Rows.indexNilRow.veiledFits Tryz.pinned.checked.prog Tryz.f3.params.toList (Tryz.f3.params.toList ++ (OpenSpec.ofChange Rows.indexNilSpec).bare.plain.varTypes Tryz.pinned.checked.prog ++ Tryz.f3.resultTypes.toList)) = true := by kernel_rfl
end Go.Proofs.YtkidamemnogojaaGreatDoor
