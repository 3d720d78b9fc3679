/-
  rosterlaw: closed facts of the row entrySame, part 1: what the form asks of the program and of the row, limb by limb.
-/
import Derived.Test.YtiiadibbkijnhaaGreatDoorCards
import Derived.Test.YtiiadibbkijnhaaGreatDoorTie
import Derived.ProofKit
import Derived.JoinedCond
import Derived.KernelRfl
namespace Go.Proofs.YtiiadibbkijnhaaGreatDoor
open Go.ChangeShapes Go.WideShapes Go.ChangeAt Go.RowKit

theorem entrySame_f0 : (Rows.entrySameRow.wf (OpenSpec.ofChange (OpenSpec.ofChange Rows.entrySameSpec).bare)) = true := by kernel_rfl
theorem entrySame_f1 : (laidOutB Tryz.pinned.checked.prog) = true := by kernel_rfl
theorem entrySame_f2 : (mapsRowed Tryz.pinned.checked.prog) = true := by kernel_rfl
theorem entrySame_f3 : (Tryz.f5.params.all (Tryz.pinned.checked.prog.readableRec ·)) = true := by kernel_rfl
theorem entrySame_f4 : (namedTie Tryz.pinned.checked.prog Rows.entrySameRow.named (OpenSpec.ofChange Rows.entrySameSpec).bare.vars) = true := by kernel_rfl
theorem entrySame_f5 : ((Rows.entrySameRow.stops == [])) = true := by kernel_rfl
theorem entrySame_f6 : ((Tryz.pinned.checked.prog.stops == [])) = true := by kernel_rfl
theorem entrySame_f7 : ((Rows.entrySameRow.knobs == [])) = true := by kernel_rfl
theorem entrySame_f8 : ((Tryz.pinned.checked.prog.stopKnobs == [])) = true := by kernel_rfl
theorem entrySame_f9 : ((Rows.entrySameRow.inPlace == Tryz.pinned.checked.prog.inPlace 5)) = true := by kernel_rfl
end Go.Proofs.YtiiadibbkijnhaaGreatDoor
