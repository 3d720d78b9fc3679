/-
  rosterlaw: closed facts of the row entryNil, part 1: what the form asks of the program and of the row, limb by limb.
-/
import Derived.Test.YtiiadibbkijnhaaGreatDoorCards
import Derived.Test.YtiiadibbkijnhaaGreatDoorTie
import Derived.ProofKit
import Derived.JoinedCond
import Derived.KernelRfl
namespace Go.Proofs.YtiiadibbkijnhaaGreatDoor
open Go.ChangeShapes Go.WideShapes Go.ChangeAt Go.RowKit

theorem entryNil_f0 : (Rows.entryNilRow.wf (OpenSpec.ofChange (OpenSpec.ofChange Rows.entryNilSpec).bare)) = true := by kernel_rfl
theorem entryNil_f1 : (laidOutB Tryz.pinned.checked.prog) = true := by kernel_rfl
theorem entryNil_f2 : (mapsRowed Tryz.pinned.checked.prog) = true := by kernel_rfl
theorem entryNil_f3 : (Tryz.f3.params.all (Tryz.pinned.checked.prog.readableRec ·)) = true := by kernel_rfl
theorem entryNil_f4 : (namedTie Tryz.pinned.checked.prog Rows.entryNilRow.named (OpenSpec.ofChange Rows.entryNilSpec).bare.vars) = true := by kernel_rfl
theorem entryNil_f5 : ((Rows.entryNilRow.stops == [])) = true := by kernel_rfl
theorem entryNil_f6 : ((Tryz.pinned.checked.prog.stops == [])) = true := by kernel_rfl
theorem entryNil_f7 : ((Rows.entryNilRow.knobs == [])) = true := by kernel_rfl
theorem entryNil_f8 : ((Tryz.pinned.checked.prog.stopKnobs == [])) = true := by kernel_rfl
theorem entryNil_f9 : ((Rows.entryNilRow.inPlace == Tryz.pinned.checked.prog.inPlace 3)) = true := by kernel_rfl
end Go.Proofs.YtiiadibbkijnhaaGreatDoor
