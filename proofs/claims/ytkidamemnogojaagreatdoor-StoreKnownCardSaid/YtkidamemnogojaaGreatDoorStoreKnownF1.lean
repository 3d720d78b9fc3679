/-
  rosterlaw: closed facts of the row storeKnown, part 1: what the form asks of the program and of the row, limb by limb.
-/
import Derived.Test.YtkidamemnogojaaGreatDoorCards
import Derived.Test.YtkidamemnogojaaGreatDoorTie
import Derived.ProofKit
import Derived.JoinedCond
import Derived.KernelRfl
namespace Go.Proofs.YtkidamemnogojaaGreatDoor
open Go.ChangeShapes Go.WideShapes Go.ChangeAt Go.RowKit

theorem storeKnown_f0 : (Rows.storeKnownRow.wf (OpenSpec.ofChange (OpenSpec.ofChange Rows.storeKnownSpec).bare)) = true := by kernel_rfl
theorem storeKnown_f1 : (laidOutB Tryz.pinned.checked.prog) = true := by kernel_rfl
theorem storeKnown_f2 : (mapsRowed Tryz.pinned.checked.prog) = true := by kernel_rfl
theorem storeKnown_f3 : (Tryz.f6.params.all (Tryz.pinned.checked.prog.readableRec ·)) = true := by kernel_rfl
theorem storeKnown_f4 : (namedTie Tryz.pinned.checked.prog Rows.storeKnownRow.named (OpenSpec.ofChange Rows.storeKnownSpec).bare.vars) = true := by kernel_rfl
theorem storeKnown_f5 : ((Rows.storeKnownRow.stops == [])) = true := by kernel_rfl
theorem storeKnown_f6 : ((Tryz.pinned.checked.prog.stops == [])) = true := by kernel_rfl
theorem storeKnown_f7 : ((Rows.storeKnownRow.knobs == [])) = true := by kernel_rfl
theorem storeKnown_f8 : ((Tryz.pinned.checked.prog.stopKnobs == [])) = true := by kernel_rfl
theorem storeKnown_f9 : ((Rows.storeKnownRow.inPlace == Tryz.pinned.checked.prog.inPlace 6)) = true := by kernel_rfl
end Go.Proofs.YtkidamemnogojaaGreatDoor
