/-
  rosterlaw: closed facts of the row rankWhole, part 1: what the form asks of the program and of the row, limb by limb.
-/
import Derived.Test.YtkidamemnogojabGreatDoorCards
import Derived.Test.YtkidamemnogojabGreatDoorTie
import Derived.ProofKit
import Derived.JoinedCond
import Derived.KernelRfl
namespace Go.Proofs.YtkidamemnogojabGreatDoor
open Go.ChangeShapes Go.WideShapes Go.ChangeAt Go.RowKit

theorem rankWhole_f0 : (Rows.rankWholeRow.wf (OpenSpec.ofChange (OpenSpec.ofChange Rows.rankWholeSpec).bare)) = true := by kernel_rfl
theorem rankWhole_f1 : (laidOutB Tryz.pinned.checked.prog) = true := by kernel_rfl
theorem rankWhole_f2 : (mapsRowed Tryz.pinned.checked.prog) = true := by kernel_rfl
theorem rankWhole_f3 : (Tryz.f4.params.all (Tryz.pinned.checked.prog.readableRec ·)) = true := by kernel_rfl
theorem rankWhole_f4 : (namedTie Tryz.pinned.checked.prog Rows.rankWholeRow.named (OpenSpec.ofChange Rows.rankWholeSpec).bare.vars) = true := by kernel_rfl
theorem rankWhole_f5 : ((Rows.rankWholeRow.stops == [])) = true := by kernel_rfl
theorem rankWhole_f6 : ((Tryz.pinned.checked.prog.stops == [])) = true := by kernel_rfl
theorem rankWhole_f7 : ((Rows.rankWholeRow.knobs == [])) = true := by kernel_rfl
theorem rankWhole_f8 : ((Tryz.pinned.checked.prog.stopKnobs == [])) = true := by kernel_rfl
theorem rankWhole_f9 : ((Rows.rankWholeRow.inPlace == Tryz.pinned.checked.prog.inPlace 4)) = true := by kernel_rfl
end Go.Proofs.YtkidamemnogojabGreatDoor
