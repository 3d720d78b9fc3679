/-
  rosterlaw: closed facts of the row rankPages, part 1: what the form asks of the program and of the row, limb by limb.
-/
import Derived.Test.YtkidamemnogojabGreatDoorCards
import Derived.Test.YtkidamemnogojabGreatDoorTie
import Derived.ProofKit
import Derived.JoinedCond
import Derived.KernelRfl
namespace Go.Proofs.YtkidamemnogojabGreatDoor
open Go.ChangeShapes Go.WideShapes Go.ChangeAt Go.RowKit

theorem rankPages_f0 : (Rows.rankPagesRow.wf (OpenSpec.ofChange (OpenSpec.ofChange Rows.rankPagesSpec).bare)) = true := by kernel_rfl
theorem rankPages_f1 : (laidOutB Tryz.pinned.checked.prog) = true := by kernel_rfl
theorem rankPages_f2 : (mapsRowed Tryz.pinned.checked.prog) = true := by kernel_rfl
theorem rankPages_f3 : (Tryz.f3.params.all (Tryz.pinned.checked.prog.readableRec ·)) = true := by kernel_rfl
theorem rankPages_f4 : (namedTie Tryz.pinned.checked.prog Rows.rankPagesRow.named (OpenSpec.ofChange Rows.rankPagesSpec).bare.vars) = true := by kernel_rfl
theorem rankPages_f5 : ((Rows.rankPagesRow.stops == [])) = true := by kernel_rfl
theorem rankPages_f6 : ((Tryz.pinned.checked.prog.stops == [])) = true := by kernel_rfl
theorem rankPages_f7 : ((Rows.rankPagesRow.knobs == [])) = true := by kernel_rfl
theorem rankPages_f8 : ((Tryz.pinned.checked.prog.stopKnobs == [])) = true := by kernel_rfl
theorem rankPages_f9 : ((Rows.rankPagesRow.inPlace == Tryz.pinned.checked.prog.inPlace 3)) = true := by kernel_rfl
end Go.Proofs.YtkidamemnogojabGreatDoor
