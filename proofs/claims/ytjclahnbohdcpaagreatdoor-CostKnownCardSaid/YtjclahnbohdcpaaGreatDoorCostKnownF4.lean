/-
  rosterlaw: closed facts of the row costKnown, part 4: what the form asks of the program and of the row, limb by limb.
-/
import Derived.Test.YtjclahnbohdcpaaGreatDoorCards
import Derived.Test.YtjclahnbohdcpaaGreatDoorTie
import Derived.ProofKit
import Derived.JoinedCond
import Derived.KernelRfl
namespace Go.Proofs.YtjclahnbohdcpaaGreatDoor
open Go.ChangeShapes Go.WideShapes Go.ChangeAt Go.RowKit

theorem costKnown_f22 : ((Rows.costKnownRow.plainKeys == Tryz.pinned.checked.prog.plainKeys)) = true := by kernel_rfl
theorem costKnown_f23 : (Rows.costKnownRow.shortTexts.isNone) = true := by kernel_rfl
theorem costKnown_f24 : (Tryz.pinned.checked.prog.stopsHeard) = true := by kernel_rfl
theorem costKnown_f25 : (Tryz.pinned.checked.prog.mayEnter) = true := by kernel_rfl
theorem costKnown_f26 : ((Rows.costKnownRow.lifted == Tryz.pinned.checked.prog.liftsFinal)) = true := by kernel_rfl
theorem costKnown_f27 : ((Tryz.pinned.checked.prog.make == some Rows.costKnownRow.make)) = true := by kernel_rfl
theorem costKnown_f28 : ((Rows.costKnownRow.kinds == (if Rows.costKnownRow.domain.isEmpty then [] else Tryz.f4.params.toList.map fun t => match Tryz.pinned.checked.prog.underlying t with | some (.int k) => some k | _ => none))) = true := by kernel_rfl
theorem costKnown_f29 : ((Rows.costKnownRow.pinned == Rows.costKnownRow.pinnedBy)) = true := by kernel_rfl
theorem costKnown_f30 : ((Rows.costKnownRow.veiled == (Tryz.f4.params.toList ++ (OpenSpec.ofChange Rows.costKnownSpec).bare.plain.varTypes Tryz.pinned.checked.prog ++ Tryz.f4.resultTypes.toList).any (Tryz.pinned.checked.prog.veiledRec ·))) = true := by kernel_rfl
theorem costKnown_f31 : (Rows.costKnownRow.veiledFits Tryz.pinned.checked.prog Tryz.f4.params.toList (Tryz.f4.params.toList ++ (OpenSpec.ofChange Rows.costKnownSpec).bare.plain.varTypes Tryz.pinned.checked.prog ++ Tryz.f4.resultTypes.toList)) = true := by kernel_rfl
end Go.Proofs.YtjclahnbohdcpaaGreatDoor
