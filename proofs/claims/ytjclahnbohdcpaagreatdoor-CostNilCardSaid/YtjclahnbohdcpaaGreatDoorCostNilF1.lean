/-
  rosterlaw: closed facts of the row costNil, part 1: what the form asks of the program and of the row, limb by limb.
-/
import Derived.Test.YtjclahnbohdcpaaGreatDoorCards
import Derived.Test.YtjclahnbohdcpaaGreatDoorTie
import Derived.ProofKit
import Derived.JoinedCond
import Derived.KernelRfl
namespace Go.Proofs.YtjclahnbohdcpaaGreatDoor
open Go.ChangeShapes Go.WideShapes Go.ChangeAt Go.RowKit

theorem costNil_f0 : (Rows.costNilRow.wf (OpenSpec.ofChange (OpenSpec.ofChange Rows.costNilSpec).bare)) = true := by kernel_rfl
theorem costNil_f1 : (laidOutB Tryz.pinned.checked.prog) = true := by kernel_rfl
theorem costNil_f2 : (mapsRowed Tryz.pinned.checked.prog) = true := by kernel_rfl
theorem costNil_f3 : (Tryz.f3.params.all (Tryz.pinned.checked.prog.readableRec ·)) = true := by kernel_rfl
theorem costNil_f4 : (namedTie Tryz.pinned.checked.prog Rows.costNilRow.named (OpenSpec.ofChange Rows.costNilSpec).bare.vars) = true := by kernel_rfl
theorem costNil_f5 : ((Rows.costNilRow.stops == [])) = true := by kernel_rfl
theorem costNil_f6 : ((Tryz.pinned.checked.prog.stops == [])) = true := by kernel_rfl
theorem costNil_f7 : ((Rows.costNilRow.knobs == [])) = true := by kernel_rfl
theorem costNil_f8 : ((Tryz.pinned.checked.prog.stopKnobs == [])) = true := by kernel_rfl
theorem costNil_f9 : ((Rows.costNilRow.inPlace == Tryz.pinned.checked.prog.inPlace 3)) = true := by kernel_rfl
end Go.Proofs.YtjclahnbohdcpaaGreatDoor
