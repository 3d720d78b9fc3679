/-
  rosterlaw: closed facts of the row entryNil, part 4: what the form asks of the program and of the row, limb by limb.
-/
import Derived.Test.YtiiadibbkijnhaaGreatDoorCards
import Derived.Test.YtiiadibbkijnhaaGreatDoorTie
import Derived.ProofKit
import Derived.JoinedCond
import Derived.KernelRfl
namespace Go.Proofs.YtiiadibbkijnhaaGreatDoor
open Go.ChangeShapes Go.WideShapes Go.ChangeAt Go.RowKit

theorem entryNil_f22 : ((Rows.entryNilRow.plainKeys == Tryz.pinned.checked.prog.plainKeys)) = true := by kernel_rfl
theorem entryNil_f23 : (Rows.entryNilRow.shortTexts.isNone) = true := by kernel_rfl
theorem entryNil_f24 : (Tryz.pinned.checked.prog.stopsHeard) = true := by kernel_rfl
theorem entryNil_f25 : (Tryz.pinned.checked.prog.mayEnter) = true := by kernel_rfl
theorem entryNil_f26 : ((Rows.entryNilRow.lifted == Tryz.pinned.checked.prog.liftsFinal)) = true := by kernel_rfl
theorem entryNil_f27 : ((Tryz.pinned.checked.prog.make == some Rows.entryNilRow.make)) = true := by kernel_rfl
theorem entryNil_f28 : ((Rows.entryNilRow.kinds == (if Rows.entryNilRow.domain.isEmpty then [] else Tryz.f3.params.toList.map fun t => match Tryz.pinned.checked.prog.underlying t with | some (.int k) => some k | _ => none))) = true := by kernel_rfl
theorem entryNil_f29 : ((Rows.entryNilRow.pinned == Rows.entryNilRow.pinnedBy)) = true := by kernel_rfl
theorem entryNil_f30 : ((Rows.entryNilRow.veiled == (Tryz.f3.params.toList ++ (OpenSpec.ofChange Rows.entryNilSpec).bare.plain.varTypes Tryz.pinned.checked.prog ++ Tryz.f3.resultTypes.toList).any (Tryz.pinned.checked.prog.veiledRec ·))) = true := by kernel_rfl
theorem entryNil_f31 : (Rows.entryNilRow.veiledFits Tryz.pinned.checked.prog Tryz.f3.params.toList (Tryz.f3.params.toList ++ (OpenSpec.ofChange Rows.entryNilSpec).bare.plain.varTypes Tryz.pinned.checked.prog ++ Tryz.f3.resultTypes.toList)) = true := by kernel_rfl
end Go.Proofs.YtiiadibbkijnhaaGreatDoor
