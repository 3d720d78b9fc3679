/-
  rosterlaw: closed facts of the row rankPages, part 3: what the form asks of the program and of the row, limb by limb.
-/
import Derived.Test.YtkidamemnogojabGreatDoorCards
import Derived.Test.YtkidamemnogojabGreatDoorTie
import Derived.ProofKit
import Derived.JoinedCond
import Derived.KernelRfl
namespace Go.Proofs.YtkidamemnogojabGreatDoor
open Go.ChangeShapes Go.WideShapes Go.ChangeAt Go.RowKit

theorem rankPages_f12 : ((Rows.rankPagesRow.named == Tryz.pinned.checked.prog.varsNamed 3)) = true := by kernel_rfl
theorem rankPages_f13 : ((Rows.rankPagesRow.maps == (Tryz.f3.params.toList ++ (OpenSpec.ofChange Rows.rankPagesSpec).bare.plain.varTypes Tryz.pinned.checked.prog).any (Tryz.pinned.checked.prog.mapsRec ·))) = true := by kernel_rfl
theorem rankPages_f14 : ((Rows.rankPagesRow.ifaces == (Tryz.f3.params.toList ++ (OpenSpec.ofChange Rows.rankPagesSpec).bare.plain.varTypes Tryz.pinned.checked.prog).any (Tryz.pinned.checked.prog.ifacesRec ·))) = true := by kernel_rfl
theorem rankPages_f15 : ((Rows.rankPagesRow.mapsOut == Tryz.pinned.checked.prog.mapsAmong Tryz.f3.resultTypes.toList)) = true := by kernel_rfl
theorem rankPages_f16 : ((Rows.rankPagesRow.loops == (Tryz.f3.params.toList ++ (OpenSpec.ofChange Rows.rankPagesSpec).bare.plain.varTypes Tryz.pinned.checked.prog).any (Tryz.pinned.checked.prog.loopsFrom ·))) = true := by kernel_rfl
theorem rankPages_f17 : ((Rows.rankPagesRow.wideKeys == (Tryz.f3.params.toList ++ (OpenSpec.ofChange Rows.rankPagesSpec).bare.plain.varTypes Tryz.pinned.checked.prog ++ Tryz.f3.resultTypes.toList).any (Tryz.pinned.checked.prog.wideKeysFrom ·))) = true := by kernel_rfl
theorem rankPages_f18 : ((OpenSpec.ofChange Rows.rankPagesSpec).bare.vars.all (Tryz.pinned.checked.prog.varReadable ·)) = true := by kernel_rfl
theorem rankPages_f19 : (Tryz.f3.resultTypes.all (fun t => Tryz.pinned.checked.prog.readableRec t && decide (t < Tryz.pinned.checked.prog.types.size))) = true := by kernel_rfl
theorem rankPages_f20 : ((Rows.rankPagesRow.ifacesOut == Tryz.f3.resultTypes.toList.any (Tryz.pinned.checked.prog.ifacesRec ·))) = true := by kernel_rfl
theorem rankPages_f21 : ((Rows.rankPagesRow.loopsOut == Tryz.f3.resultTypes.toList.any (Tryz.pinned.checked.prog.loopsFrom ·))) = true := by kernel_rfl
end Go.Proofs.YtkidamemnogojabGreatDoor
