/-
  rosterlaw: closed facts of the row entryKnown, part 4: what the form asks of the program and of the row, limb by limb.
-/
import Derived.Test.YtiiadibbkijnhaaGreatDoorCards
import Derived.Test.YtiiadibbkijnhaaGreatDoorTie
import Derived.ProofKit
import Derived.JoinedCond
import Derived.KernelRfl
namespace Go.Proofs.YtiiadibbkijnhaaGreatDoor
open Go.ChangeShapes Go.WideShapes Go.ChangeAt Go.RowKit

theorem entryKnown_f22 : ((Rows.entryKnownRow.plainKeys == Tryz.pinned.checked.prog.plainKeys)) = true := by kernel_rfl
theorem entryKnown_f23 : (Rows.entryKnownRow.shortTexts.isNone) = true := by kernel_rfl
theorem entryKnown_f24 : (Tryz.pinned.checked.prog.stopsHeard) = true := by kernel_rfl
theorem entryKnown_f25 : (Tryz.pinned.checked.prog.mayEnter) = true := by kernel_rfl
theorem entryKnown_f26 : ((Rows.entryKnownRow.lifted == Tryz.pinned.checked.prog.liftsFinal)) = true := by kernel_rfl
theorem entryKnown_f27 : ((Tryz.pinned.checked.prog.make == some Rows.entryKnownRow.make)) = true := by kernel_rfl
theorem entryKnown_f28 : ((Rows.entryKnownRow.kinds == (if Rows.entryKnownRow.domain.isEmpty then [] else Tryz.f4.params.toList.map fun t => match Tryz.pinned.checked.prog.underlying t with | some (.int k) => some k | _ => none))) = true := by kernel_rfl
theorem entryKnown_f29 : ((Rows.entryKnownRow.pinned == Rows.entryKnownRow.pinnedBy)) = true := by kernel_rfl
theorem entryKnown_f30 : ((Rows.entryKnownRow.veiled == (Tryz.f4.params.toList ++ (OpenSpec.ofChange Rows.entryKnownSpec).bare.plain.varTypes Tryz.pinned.checked.prog ++ Tryz.f4.resultTypes.toList).any (Tryz.pinned.checked.prog.veiledRec ·))) = true := by kernel_rfl
theorem entryKnown_f31 : (Rows.entryKnownRow.veiledFits Tryz.pinned.checked.prog Tryz.f4.params.toList (Tryz.f4.params.toList ++ (OpenSpec.ofChange Rows.entryKnownSpec).bare.plain.varTypes Tryz.pinned.checked.prog ++ Tryz.f4.resultTypes.toList)) = true := by kernel_rfl
end Go.Proofs.YtiiadibbkijnhaaGreatDoor
