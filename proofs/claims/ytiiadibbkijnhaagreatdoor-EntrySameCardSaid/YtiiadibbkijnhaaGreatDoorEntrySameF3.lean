/-
  rosterlaw: closed facts of the row entrySame, part 3: what the form asks of the program and of the row, limb by limb.
-/
import Derived.Test.YtiiadibbkijnhaaGreatDoorCards
import Derived.Test.YtiiadibbkijnhaaGreatDoorTie
import Derived.ProofKit
import Derived.JoinedCond
import Derived.KernelRfl
namespace Go.Proofs.YtiiadibbkijnhaaGreatDoor
open Go.ChangeShapes Go.WideShapes Go.ChangeAt Go.RowKit

theorem entrySame_f12 : ((Rows.entrySameRow.named == Tryz.pinned.checked.prog.varsNamed 5)) = true := by kernel_rfl
theorem entrySame_f13 : ((Rows.entrySameRow.maps == (Tryz.f5.params.toList ++ (OpenSpec.ofChange Rows.entrySameSpec).bare.plain.varTypes Tryz.pinned.checked.prog).any (Tryz.pinned.checked.prog.mapsRec ·))) = true := by kernel_rfl
theorem entrySame_f14 : ((Rows.entrySameRow.ifaces == (Tryz.f5.params.toList ++ (OpenSpec.ofChange Rows.entrySameSpec).bare.plain.varTypes Tryz.pinned.checked.prog).any (Tryz.pinned.checked.prog.ifacesRec ·))) = true := by kernel_rfl
theorem entrySame_f15 : ((Rows.entrySameRow.mapsOut == Tryz.pinned.checked.prog.mapsAmong Tryz.f5.resultTypes.toList)) = true := by kernel_rfl
theorem entrySame_f16 : ((Rows.entrySameRow.loops == (Tryz.f5.params.toList ++ (OpenSpec.ofChange Rows.entrySameSpec).bare.plain.varTypes Tryz.pinned.checked.prog).any (Tryz.pinned.checked.prog.loopsFrom ·))) = true := by kernel_rfl
theorem entrySame_f17 : ((Rows.entrySameRow.wideKeys == (Tryz.f5.params.toList ++ (OpenSpec.ofChange Rows.entrySameSpec).bare.plain.varTypes Tryz.pinned.checked.prog ++ Tryz.f5.resultTypes.toList).any (Tryz.pinned.checked.prog.wideKeysFrom ·))) = true := by kernel_rfl
theorem entrySame_f18 : ((OpenSpec.ofChange Rows.entrySameSpec).bare.vars.all (Tryz.pinned.checked.prog.varReadable ·)) = true := by kernel_rfl
theorem entrySame_f19 : (Tryz.f5.resultTypes.all (fun t => Tryz.pinned.checked.prog.readableRec t && decide (t < Tryz.pinned.checked.prog.types.size))) = true := by kernel_rfl
theorem entrySame_f20 : ((Rows.entrySameRow.ifacesOut == Tryz.f5.resultTypes.toList.any (Tryz.pinned.checked.prog.ifacesRec ·))) = true := by kernel_rfl
theorem entrySame_f21 : ((Rows.entrySameRow.loopsOut == Tryz.f5.resultTypes.toList.any (Tryz.pinned.checked.prog.loopsFrom ·))) = true := by kernel_rfl
end Go.Proofs.YtiiadibbkijnhaaGreatDoor
