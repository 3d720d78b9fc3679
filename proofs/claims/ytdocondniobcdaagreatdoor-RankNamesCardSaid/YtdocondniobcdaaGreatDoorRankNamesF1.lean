/-
  rosterlaw: closed facts of the row rankNames, part 1: what the form asks of the program and of the row, limb by limb.
-/
import Derived.Test.YtdocondniobcdaaGreatDoorCards
import Derived.Test.YtdocondniobcdaaGreatDoorTie
import Derived.ProofKit
import Derived.JoinedCond
import Derived.KernelRfl
namespace Go.Proofs.YtdocondniobcdaaGreatDoor
open Go.ChangeShapes Go.WideShapes Go.ChangeAt Go.RowKit

theorem rankNames_f0 : (Rows.rankNamesRow.wf (OpenSpec.ofChange (OpenSpec.ofChange Rows.rankNamesSpec).bare)) = true := by kernel_rfl
theorem rankNames_f1 : (laidOutB Tryz.pinned.checked.prog) = true := by kernel_rfl
theorem rankNames_f2 : (mapsRowed Tryz.pinned.checked.prog) = true := by kernel_rfl
theorem rankNames_f3 : (Tryz.f5.params.all (Tryz.pinned.checked.prog.readableRec ·)) = true := by kernel_rfl
theorem rankNames_f4 : (namedTie Tryz.pinned.checked.prog Rows.rankNamesRow.named (OpenSpec.ofChange Rows.rankNamesSpec).bare.vars) = true := by kernel_rfl
theorem rankNames_f5 : ((Rows.rankNamesRow.stops == [])) = true := by kernel_rfl
theorem rankNames_f6 : ((Tryz.pinned.checked.prog.stops == [])) = true := by kernel_rfl
theorem rankNames_f7 : ((Rows.rankNamesRow.knobs == [])) = true := by kernel_rfl
theorem rankNames_f8 : ((Tryz.pinned.checked.prog.stopKnobs == [])) = true := by kernel_rfl
theorem rankNames_f9 : ((Rows.rankNamesRow.inPlace == Tryz.pinned.checked.prog.inPlace 5)) = true := by kernel_rfl
end Go.Proofs.YtdocondniobcdaaGreatDoor
