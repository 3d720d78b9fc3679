/-
  rosterlaw: closed facts of the row rankWhole, part 3: what the form asks of the program and of the row, limb by limb.
-/
import Derived.Test.YtkidamemnogojabGreatDoorCards
import Derived.Test.YtkidamemnogojabGreatDoorTie
import Derived.ProofKit
import Derived.JoinedCond
import Derived.KernelRfl
namespace Go.Proofs.YtkidamemnogojabGreatDoor
open Go.ChangeShapes Go.WideShapes Go.ChangeAt Go.RowKit

theorem rankWhole_f12 : ((Rows.rankWholeRow.named == Tryz.pinned.checked.prog.varsNamed 4)) = true := by kernel_rfl
theorem rankWhole_f13 : ((Rows.rankWholeRow.maps == (Tryz.f4.params.toList ++ (OpenSpec.ofChange Rows.rankWholeSpec).bare.plain.varTypes Tryz.pinned.checked.prog).any (Tryz.pinned.checked.prog.mapsRec ·))) = true := by kernel_rfl
theorem rankWhole_f14 : ((Rows.rankWholeRow.ifaces == (Tryz.f4.params.toList ++ (OpenSpec.ofChange Rows.rankWholeSpec).bare.plain.varTypes Tryz.pinned.checked.prog).any (Tryz.pinned.checked.prog.ifacesRec ·))) = true := by kernel_rfl
theorem rankWhole_f15 : ((Rows.rankWholeRow.mapsOut == Tryz.pinned.checked.prog.mapsAmong Tryz.f4.resultTypes.toList)) = true := by kernel_rfl
theorem rankWhole_f16 : ((Rows.rankWholeRow.loops == (Tryz.f4.params.toList ++ (OpenSpec.ofChange Rows.rankWholeSpec).bare.plain.varTypes Tryz.pinned.checked.prog).any (Tryz.pinned.checked.prog.loopsFrom ·))) = true := by kernel_rfl
theorem rankWhole_f17 : ((Rows.rankWholeRow.wideKeys == (Tryz.f4.params.toList ++ (OpenSpec.ofChange Rows.rankWholeSpec).bare.plain.varTypes Tryz.pinned.checked.prog ++ Tryz.f4.resultTypes.toList).any (Tryz.pinned.checked.prog.wideKeysFrom ·))) = true := by kernel_rfl
theorem rankWhole_f18 : ((OpenSpec.ofChange Rows.rankWholeSpec).bare.vars.all (Tryz.pinned.checked.prog.varReadable ·)) = true := by kernel_rfl
theorem rankWhole_f19 : (Tryz.f4.resultTypes.all (fun t => Tryz.pinned.checked.prog.readableRec t && decide (t < Tryz.pinned.checked.prog.types.size))) = true := by kernel_rfl
theorem rankWhole_f20 : ((Rows.rankWholeRow.ifacesOut == Tryz.f4.resultTypes.toList.any (Tryz.pinned.checked.prog.ifacesRec ·))) = true := by kernel_rfl
theorem rankWhole_f21 : ((Rows.rankWholeRow.loopsOut == Tryz.f4.resultTypes.toList.any (Tryz.pinned.checked.prog.loopsFrom ·))) = true := by kernel_rfl
end Go.Proofs.YtkidamemnogojabGreatDoor
