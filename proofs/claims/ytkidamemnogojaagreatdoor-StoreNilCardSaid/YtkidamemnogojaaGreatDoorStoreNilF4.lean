/-
  rosterlaw: closed facts of the row storeNil, part 4: what the form asks of the program and of the row, limb by limb.
-/
import Derived.Test.YtkidamemnogojaaGreatDoorCards
import Derived.Test.YtkidamemnogojaaGreatDoorTie
import Derived.ProofKit
import Derived.JoinedCond
import Derived.KernelRfl
namespace Go.Proofs.YtkidamemnogojaaGreatDoor
open Go.ChangeShapes Go.WideShapes Go.ChangeAt Go.RowKit

theorem storeNil_f22 : ((Rows.storeNilRow.plainKeys == Tryz.pinned.checked.prog.plainKeys)) = true := by kernel_rfl
theorem storeNil_f23 : (Rows.storeNilRow.shortTexts.isNone) = true := by kernel_rfl
theorem storeNil_f24 : (Tryz.pinned.checked.prog.stopsHeard) = true := by kernel_rfl
theorem storeNil_f25 : (Tryz.pinned.checked.prog.mayEnter) = true := by kernel_rfl
theorem storeNil_f26 : ((Rows.storeNilRow.lifted == Tryz.pinned.checked.prog.liftsFinal)) = true := by kernel_rfl
theorem storeNil_f27 : ((Tryz.pinned.checked.prog.make == some Rows.storeNilRow.make)) = true := by kernel_rfl
theorem storeNil_f28 : ((Rows.storeNilRow.kinds == (if Rows.storeNilRow.domain.isEmpty then [] else Tryz.f5.params.toList.map fun t => match Tryz.pinned.checked.prog.underlying t with | some (.int k) => some k | _ => none))) = true := by kernel_rfl
theorem storeNil_f29 : ((Rows.storeNilRow.pinned == Rows.storeNilRow.pinnedBy)) = true := by kernel_rfl
theorem storeNil_f30 : ((Rows.storeNilRow.veiled == (Tryz.f5.params.toList ++ (OpenSpec.ofChange Rows.storeNilSpec).bare.plain.varTypes Tryz.pinned.checked.prog ++ Tryz.f5.resultTypes.toList).any (Tryz.pinned.checked.prog.veiledRec ·))) = true := by kernel_rfl
theorem storeNil_f31 : (Rows.storeNilRow.veiledFits Tryz.pinned.checked.prog Tryz.f5.params.toList (Tryz.f5.params.toList ++ (OpenSpec.ofChange Rows.storeNilSpec).bare.plain.varTypes Tryz.pinned.checked.prog ++ Tryz.f5.resultTypes.toList)) = true := by kernel_rfl
end Go.Proofs.YtkidamemnogojaaGreatDoor
