/-
  rosterlaw: closed facts of the row rankNames, part 4: what the form asks of the program and of the row, limb by limb.
-/
import Derived.Test.YtdocondniobcdaaGreatDoorCards
import Derived.Test.YtdocondniobcdaaGreatDoorTie
import Derived.ProofKit
import Derived.JoinedCond
import Derived.KernelRfl
namespace Go.Proofs.YtdocondniobcdaaGreatDoor
open Go.ChangeShapes Go.WideShapes Go.ChangeAt Go.RowKit

theorem rankNames_f22 : ((Rows.rankNamesRow.plainKeys == Tryz.pinned.checked.prog.plainKeys)) = true := by kernel_rfl
theorem rankNames_f23 : (Rows.rankNamesRow.shortTexts.isNone) = true := by kernel_rfl
theorem rankNames_f24 : (Tryz.pinned.checked.prog.stopsHeard) = true := by kernel_rfl
theorem rankNames_f25 : (Tryz.pinned.checked.prog.mayEnter) = true := by kernel_rfl
theorem rankNames_f26 : ((Rows.rankNamesRow.lifted == Tryz.pinned.checked.prog.liftsFinal)) = true := by kernel_rfl
theorem rankNames_f27 : ((Tryz.pinned.checked.prog.make == some Rows.rankNamesRow.make)) = true := by kernel_rfl
theorem rankNames_f28 : ((Rows.rankNamesRow.kinds == (if Rows.rankNamesRow.domain.isEmpty then [] else Tryz.f5.params.toList.map fun t => match Tryz.pinned.checked.prog.underlying t with | some (.int k) => some k | _ => none))) = true := by kernel_rfl
theorem rankNames_f29 : ((Rows.rankNamesRow.pinned == Rows.rankNamesRow.pinnedBy)) = true := by kernel_rfl
theorem rankNames_f30 : ((Rows.rankNamesRow.veiled == (Tryz.f5.params.toList ++ (OpenSpec.ofChange Rows.rankNamesSpec).bare.plain.varTypes Tryz.pinned.checked.prog ++ Tryz.f5.resultTypes.toList).any (Tryz.pinned.checked.prog.veiledRec ·))) = true := by kernel_rfl
theorem rankNames_f31 : (Rows.rankNamesRow.veiledFits Tryz.pinned.checked.prog Tryz.f5.params.toList (Tryz.f5.params.toList ++ (OpenSpec.ofChange Rows.rankNamesSpec).bare.plain.varTypes Tryz.pinned.checked.prog ++ Tryz.f5.resultTypes.toList)) = true := by kernel_rfl
end Go.Proofs.YtdocondniobcdaaGreatDoor
