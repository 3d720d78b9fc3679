/-
  rosterlaw: closed facts of the row costNil, part 4: what the form asks of the program and of the row, limb by limb.
-/
import Derived.Test.YtjclahnbohdcpaaGreatDoorCards
import Derived.Test.YtjclahnbohdcpaaGreatDoorTie
import Derived.ProofKit
import Derived.JoinedCond
import Derived.KernelRfl
namespace Go.Proofs.YtjclahnbohdcpaaGreatDoor
open Go.ChangeShapes Go.WideShapes Go.ChangeAt Go.RowKit

theorem costNil_f22 : ((Rows.costNilRow.plainKeys == Tryz.pinned.checked.prog.plainKeys)) = true := by kernel_rfl
theorem costNil_f23 : (Rows.costNilRow.shortTexts.isNone) = true := by kernel_rfl
theorem costNil_f24 : (Tryz.pinned.checked.prog.stopsHeard) = true := by kernel_rfl
theorem costNil_f25 : (Tryz.pinned.checked.prog.mayEnter) = true := by kernel_rfl
theorem costNil_f26 : ((Rows.costNilRow.lifted == Tryz.pinned.checked.prog.liftsFinal)) = true := by kernel_rfl
theorem costNil_f27 : ((Tryz.pinned.checked.prog.make == some Rows.costNilRow.make)) = true := by kernel_rfl
theorem costNil_f28 : ((Rows.costNilRow.kinds == (if Rows.costNilRow.domain.isEmpty then [] else Tryz.f3.params.toList.map fun t => match Tryz.pinned.checked.prog.underlying t with | some (.int k) => some k | _ => none))) = true := by kernel_rfl
theorem costNil_f29 : ((Rows.costNilRow.pinned == Rows.costNilRow.pinnedBy)) = true := by kernel_rfl
theorem costNil_f30 : ((Rows.costNilRow.veiled == (Tryz.f3.params.toList ++ (OpenSpec.ofChange Rows.costNilSpec).bare.plain.varTypes Tryz.pinned.checked.prog ++ Tryz.f3.resultTypes.toList).any (Tryz.pinned.checked.prog.veiledRec ·))) = true := by kernel_rfl
theorem costNil_f31 : (Rows.costNilRow.veiledFits Tryz.pinned.checked.prog Tryz.f3.params.toList (Tryz.f3.params.toList ++ (OpenSpec.ofChange Rows.costNilSpec).bare.plain.varTypes Tryz.pinned.checked.prog ++ Tryz.f3.resultTypes.toList)) = true := by kernel_rfl
end Go.Proofs.YtjclahnbohdcpaaGreatDoor
