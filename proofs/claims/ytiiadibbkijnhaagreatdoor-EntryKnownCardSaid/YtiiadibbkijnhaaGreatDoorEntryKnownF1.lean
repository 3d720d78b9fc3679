/-
  rosterlaw: closed facts of the row entryKnown, part 1: what the form asks of the program and of the row, limb by limb.
-/
import Derived.Test.YtiiadibbkijnhaaGreatDoorCards
import Derived.Test.YtiiadibbkijnhaaGreatDoorTie
import Derived.ProofKit
import Derived.JoinedCond
import Derived.KernelRfl
namespace Go.Proofs.YtiiadibbkijnhaaGreatDoor
open Go.ChangeShapes Go.WideShapes Go.ChangeAt Go.RowKit

theorem entryKnown_f0 : (Rows.entryKnownRow.wf (OpenSpec.ofChange (OpenSpec.ofChange Rows.entryKnownSpec).bare)) = true := by kernel_rfl
theorem entryKnown_f1 : (laidOutB Tryz.pinned.checked.prog) = true := by kernel_rfl
theorem entryKnown_f2 : (mapsRowed Tryz.pinned.checked.prog) = true := by kernel_rfl
theorem entryKnown_f3 : (Tryz.f4.params.all (Tryz.pinned.checked.prog.readableRec ·)) = true := by kernel_rfl
theorem entryKnown_f4 : (namedTie Tryz.pinned.checked.prog Rows.entryKnownRow.named (OpenSpec.ofChange Rows.entryKnownSpec).bare.vars) = true := by kernel_rfl
theorem entryKnown_f5 : ((Rows.entryKnownRow.stops == [])) = true := by kernel_rfl
theorem entryKnown_f6 : ((Tryz.pinned.checked.prog.stops == [])) = true := by kernel_rfl
theorem entryKnown_f7 : ((Rows.entryKnownRow.knobs == [])) = true := by kernel_rfl
theorem entryKnown_f8 : ((Tryz.pinned.checked.prog.stopKnobs == [])) = true := by kernel_rfl
theorem entryKnown_f9 : ((Rows.entryKnownRow.inPlace == Tryz.pinned.checked.prog.inPlace 4)) = true := by kernel_rfl
end Go.Proofs.YtiiadibbkijnhaaGreatDoor
