/-
  rosterlaw: closed facts of the row indexKnown, part 1: what the form asks of the program and of the row, limb by limb.
-/
import Derived.Test.YtkidamemnogojaaGreatDoorCards
import Derived.Test.YtkidamemnogojaaGreatDoorTie
import Derived.ProofKit
import Derived.JoinedCond
import Derived.KernelRfl
namespace Go.Proofs.YtkidamemnogojaaGreatDoor
open Go.ChangeShapes Go.WideShapes Go.ChangeAt Go.RowKit

theorem indexKnown_f0 : (Rows.indexKnownRow.wf (OpenSpec.ofChange (OpenSpec.ofChange Rows.indexKnownSpec).bare)) = true := by kernel_rfl
theorem indexKnown_f1 : (laidOutB Tryz.pinned.checked.prog) = true := by kernel_rfl
theorem indexKnown_f2 : (mapsRowed Tryz.pinned.checked.prog) = true := by kernel_rfl
theorem indexKnown_f3 : (Tryz.f4.params.all (Tryz.pinned.checked.prog.readableRec ·)) = true := by kernel_rfl
theorem indexKnown_f4 : (namedTie Tryz.pinned.checked.prog Rows.indexKnownRow.named (OpenSpec.ofChange Rows.indexKnownSpec).bare.vars) = true := by kernel_rfl
theorem indexKnown_f5 : ((Rows.indexKnownRow.stops == [])) = true := by kernel_rfl
theorem indexKnown_f6 : ((Tryz.pinned.checked.prog.stops == [])) = true := by kernel_rfl
theorem indexKnown_f7 : ((Rows.indexKnownRow.knobs == [])) = true := by kernel_rfl
theorem indexKnown_f8 : ((Tryz.pinned.checked.prog.stopKnobs == [])) = true := by kernel_rfl
theorem indexKnown_f9 : ((Rows.indexKnownRow.inPlace == Tryz.pinned.checked.prog.inPlace 4)) = true := by kernel_rfl
end Go.Proofs.YtkidamemnogojaaGreatDoor
