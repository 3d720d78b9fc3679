/-
  rosterlaw: closed facts of the row storeNil, part 1: what the form asks of the program and of the row, limb by limb.
-/
import Derived.Test.YtkidamemnogojaaGreatDoorCards
import Derived.Test.YtkidamemnogojaaGreatDoorTie
import Derived.ProofKit
import Derived.JoinedCond
import Derived.KernelRfl
namespace Go.Proofs.YtkidamemnogojaaGreatDoor
open Go.ChangeShapes Go.WideShapes Go.ChangeAt Go.RowKit

theorem storeNil_f0 : (Rows.storeNilRow.wf (OpenSpec.ofChange (OpenSpec.ofChange Rows.storeNilSpec).bare)) = true := by kernel_rfl
theorem storeNil_f1 : (laidOutB Tryz.pinned.checked.prog) = true := by kernel_rfl
theorem storeNil_f2 : (mapsRowed Tryz.pinned.checked.prog) = true := by kernel_rfl
theorem storeNil_f3 : (Tryz.f5.params.all (Tryz.pinned.checked.prog.readableRec ·)) = true := by kernel_rfl
theorem storeNil_f4 : (namedTie Tryz.pinned.checked.prog Rows.storeNilRow.named (OpenSpec.ofChange Rows.storeNilSpec).bare.vars) = true := by kernel_rfl
theorem storeNil_f5 : ((Rows.storeNilRow.stops == [])) = true := by kernel_rfl
theorem storeNil_f6 : ((Tryz.pinned.checked.prog.stops == [])) = true := by kernel_rfl
theorem storeNil_f7 : ((Rows.storeNilRow.knobs == [])) = true := by kernel_rfl
theorem storeNil_f8 : ((Tryz.pinned.checked.prog.stopKnobs == [])) = true := by kernel_rfl
theorem storeNil_f9 : ((Rows.storeNilRow.inPlace == Tryz.pinned.checked.prog.inPlace 5)) = true := by kernel_rfl
end Go.Proofs.YtkidamemnogojaaGreatDoor
