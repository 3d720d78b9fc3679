/-
  rosterlaw: closed facts of the row costKnown, part 1: what the form asks of the program and of the row, limb by limb.
-/
import Derived.Test.YtjclahnbohdcpaaGreatDoorCards
import Derived.Test.YtjclahnbohdcpaaGreatDoorTie
import Derived.ProofKit
import Derived.JoinedCond
import Derived.KernelRfl
namespace Go.Proofs.YtjclahnbohdcpaaGreatDoor
open Go.ChangeShapes Go.WideShapes Go.ChangeAt Go.RowKit

theorem costKnown_f0 : (Rows.costKnownRow.wf (OpenSpec.ofChange (OpenSpec.ofChange Rows.costKnownSpec).bare)) = true := by kernel_rfl
theorem costKnown_f1 : (laidOutB Tryz.pinned.checked.prog) = true := by kernel_rfl
theorem costKnown_f2 : (mapsRowed Tryz.pinned.checked.prog) = true := by kernel_rfl
theorem costKnown_f3 : (Tryz.f4.params.all (Tryz.pinned.checked.prog.readableRec ·)) = true := by kernel_rfl
theorem costKnown_f4 : (namedTie Tryz.pinned.checked.prog Rows.costKnownRow.named (OpenSpec.ofChange Rows.costKnownSpec).bare.vars) = true := by kernel_rfl
theorem costKnown_f5 : ((Rows.costKnownRow.stops == [])) = true := by kernel_rfl
theorem costKnown_f6 : ((Tryz.pinned.checked.prog.stops == [])) = true := by kernel_rfl
theorem costKnown_f7 : ((Rows.costKnownRow.knobs == [])) = true := by kernel_rfl
theorem costKnown_f8 : ((Tryz.pinned.checked.prog.stopKnobs == [])) = true := by kernel_rfl
theorem costKnown_f9 : ((Rows.costKnownRow.inPlace == Tryz.pinned.checked.prog.inPlace 4)) = true := by kernel_rfl
end Go.Proofs.YtjclahnbohdcpaaGreatDoor
