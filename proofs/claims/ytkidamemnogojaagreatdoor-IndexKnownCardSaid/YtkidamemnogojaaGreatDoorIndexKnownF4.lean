/-
  rosterlaw: closed facts of the row indexKnown, part 4: what the form asks of the program and of the row, limb by limb.
-/
import Derived.Test.YtkidamemnogojaaGreatDoorCards
import Derived.Test.YtkidamemnogojaaGreatDoorTie
import Derived.ProofKit
import Derived.JoinedCond
import Derived.KernelRfl
namespace Go.Proofs.YtkidamemnogojaaGreatDoor
open Go.ChangeShapes Go.WideShapes Go.ChangeAt Go.RowKit

theorem indexKnown_f22 : ((Rows.indexKnownRow.plainKeys == Tryz.pinned.checked.prog.plainKeys)) = true := by kernel_rfl
theorem indexKnown_f23 : (Rows.indexKnownRow.shortTexts.isNone) = true := by kernel_rfl
theorem indexKnown_f24 : (Tryz.pinned.checked.prog.stopsHeard) = true := by kernel_rfl
theorem indexKnown_f25 : (Tryz.pinned.checked.prog.mayEnter) = true := by kernel_rfl
theorem indexKnown_f26 : ((Rows.indexKnownRow.lifted == Tryz.pinned.checked.prog.liftsFinal)) = true := by kernel_rfl
theorem indexKnown_f27 : ((Tryz.pinned.checked.prog.make == some Rows.indexKnownRow.make)) = true := by kernel_rfl
theorem indexKnown_f28 : ((Rows.indexKnownRow.kinds == (if Rows.indexKnownRow.domain.isEmpty then [] else Tryz.f4.params.toList.map fun t => match Tryz.pinned.checked.prog.underlying t with | some (.int k) => some k | _ => none))) = true := by kernel_rfl
theorem indexKnown_f29 : ((Rows.indexKnownRow.pinned == Rows.indexKnownRow.pinnedBy)) = true := by kernel_rfl
theorem indexKnown_f30 : ((Rows.indexKnownRow.veiled == (Tryz.f4.params.toList ++ (OpenSpec.ofChange Rows.indexKnownSpec).bare.plain.varTypes Tryz.pinned.checked.prog ++ Tryz.f4.resultTypes.toList).any (Tryz.pinned.checked.prog.veiledRec ·))) = true := by kernel_rfl
theorem indexKnown_f31 : (Rows.indexKnownRow.veiledFits Tryz.pinned.checked.prog Tryz.f4.params.toList (Tryz.f4.params.toList ++ (OpenSpec.ofChange Rows.indexKnownSpec).bare.plain.varTypes Tryz.pinned.checked.prog ++ Tryz.f4.resultTypes.toList)) = true := by kernel_rfl
end Go.Proofs.YtkidamemnogojaaGreatDoor
