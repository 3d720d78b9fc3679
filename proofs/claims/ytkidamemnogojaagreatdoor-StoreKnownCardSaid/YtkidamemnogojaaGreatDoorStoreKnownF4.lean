/-
  rosterlaw: closed facts of the row storeKnown, part 4: what the form asks of the program and of the row, limb by limb.
-/
import Derived.Test.YtkidamemnogojaaGreatDoorCards
import Derived.Test.YtkidamemnogojaaGreatDoorTie
import Derived.ProofKit
import Derived.JoinedCond
import Derived.KernelRfl
namespace Go.Proofs.YtkidamemnogojaaGreatDoor
open Go.ChangeShapes Go.WideShapes Go.ChangeAt Go.RowKit

theorem storeKnown_f22 : ((Rows.storeKnownRow.plainKeys == Tryz.pinned.checked.prog.plainKeys)) = true := by kernel_rfl
theorem storeKnown_f23 : (Rows.storeKnownRow.shortTexts.isNone) = true := by kernel_rfl
theorem storeKnown_f24 : (Tryz.pinned.checked.prog.stopsHeard) = true := by kernel_rfl
theorem storeKnown_f25 : (Tryz.pinned.checked.prog.mayEnter) = true := by kernel_rfl
theorem storeKnown_f26 : ((Rows.storeKnownRow.lifted == Tryz.pinned.checked.prog.liftsFinal)) = true := by kernel_rfl
theorem storeKnown_f27 : ((Tryz.pinned.checked.prog.make == some Rows.storeKnownRow.make)) = true := by kernel_rfl
theorem storeKnown_f28 : ((Rows.storeKnownRow.kinds == (if Rows.storeKnownRow.domain.isEmpty then [] else Tryz.f6.params.toList.map fun t => match Tryz.pinned.checked.prog.underlying t with | some (.int k) => some k | _ => none))) = true := by kernel_rfl
theorem storeKnown_f29 : ((Rows.storeKnownRow.pinned == Rows.storeKnownRow.pinnedBy)) = true := by kernel_rfl
theorem storeKnown_f30 : ((Rows.storeKnownRow.veiled == (Tryz.f6.params.toList ++ (OpenSpec.ofChange Rows.storeKnownSpec).bare.plain.varTypes Tryz.pinned.checked.prog ++ Tryz.f6.resultTypes.toList).any (Tryz.pinned.checked.prog.veiledRec ·))) = true := by kernel_rfl
theorem storeKnown_f31 : (Rows.storeKnownRow.veiledFits Tryz.pinned.checked.prog Tryz.f6.params.toList (Tryz.f6.params.toList ++ (OpenSpec.ofChange Rows.storeKnownSpec).bare.plain.varTypes Tryz.pinned.checked.prog ++ Tryz.f6.resultTypes.toList)) = true := by kernel_rfl
end Go.Proofs.YtkidamemnogojaaGreatDoor
