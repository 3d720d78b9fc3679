/-
  rosterlaw: closed facts of the row indexNil, part 1: what the form asks of the program and of the row, limb by limb.
-/
import Derived.Test.YtkidamemnogojaaGreatDoorCards
import Derived.Test.YtkidamemnogojaaGreatDoorTie
import Derived.ProofKit
import Derived.JoinedCond
import Derived.KernelRfl
namespace Go.Proofs.YtkidamemnogojaaGreatDoor
open Go.ChangeShapes Go.WideShapes Go.ChangeAt Go.RowKit

theorem indexNil_f0 : (Rows.indexNilRow.wf (OpenSpec.ofChange (OpenSpec.ofChange Rows.indexNilSpec).bare)) = true := by kernel_rfl
theorem indexNil_f1 : (laidOutB Tryz.pinned.checked.prog) = true := by kernel_rfl
theorem indexNil_f2 : (mapsRowed Tryz.pinned.checked.prog) = true := by kernel_rfl
theorem indexNil_f3 : (Tryz.f3.params.all (Tryz.pinned.checked.prog.readableRec ·)) = true := by kernel_rfl
theorem indexNil_f4 : (namedTie Tryz.pinned.checked.prog Rows.indexNilRow.named (OpenSpec.ofChange Rows.indexNilSpec).bare.vars) = true := by kernel_rfl
theorem indexNil_f5 : ((Rows.indexNilRow.stops == [])) = true := by kernel_rfl
theorem indexNil_f6 : ((Tryz.pinned.checked.prog.stops == [])) = true := by kernel_rfl
theorem indexNil_f7 : ((Rows.indexNilRow.knobs == [])) = true := by kernel_rfl
theorem indexNil_f8 : ((Tryz.pinned.checked.prog.stopKnobs == [])) = true := by kernel_rfl
theorem indexNil_f9 : ((Rows.indexNilRow.inPlace == Tryz.pinned.checked.prog.inPlace 3)) = true := by kernel_rfl
end Go.Proofs.YtkidamemnogojaaGreatDoor
