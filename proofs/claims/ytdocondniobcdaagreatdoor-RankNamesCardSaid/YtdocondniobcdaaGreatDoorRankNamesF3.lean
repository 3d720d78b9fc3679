/-
  rosterlaw: closed facts of the row rankNames, part 3: what the form asks of the program and of the row, limb by limb.
-/
import Derived.Test.YtdocondniobcdaaGreatDoorCards
import Derived.Test.YtdocondniobcdaaGreatDoorTie
import Derived.ProofKit
import Derived.JoinedCond
import Derived.KernelRfl
namespace Go.Proofs.YtdocondniobcdaaGreatDoor
open Go.ChangeShapes Go.WideShapes Go.ChangeAt Go.RowKit

theorem rankNames_f12 : ((Rows.rankNamesRow.named == Tryz.pinned.checked.prog.varsNamed 5)) = true := by kernel_rfl
theorem rankNames_f13 : ((Rows.rankNamesRow.maps == (Tryz.f5.params.toList ++ (OpenSpec.ofChange Rows.rankNamesSpec).bare.plain.varTypes Tryz.pinned.checked.prog).any (Tryz.pinned.checked.prog.mapsRec ·))) = true := by kernel_rfl
theorem rankNames_f14 : ((Rows.rankNamesRow.ifaces == (Tryz.f5.params.toList ++ (OpenSpec.ofChange Rows.rankNamesSpec).bare.plain.varTypes Tryz.pinned.checked.prog).any (Tryz.pinned.checked.prog.ifacesRec ·))) = true := by kernel_rfl
theorem rankNames_f15 : ((Rows.rankNamesRow.mapsOut == Tryz.pinned.checked.prog.mapsAmong Tryz.f5.resultTypes.toList)) = true := by kernel_rfl
theorem rankNames_f16 : ((Rows.rankNamesRow.loops == (Tryz.f5.params.toList ++ (OpenSpec.ofChange Rows.rankNamesSpec).bare.plain.varTypes Tryz.pinned.checked.prog).any (Tryz.pinned.checked.prog.loopsFrom ·))) = true := by kernel_rfl
theorem rankNames_f17 : ((Rows.rankNamesRow.wideKeys == (Tryz.f5.params.toList ++ (OpenSpec.ofChange Rows.rankNamesSpec).bare.plain.varTypes Tryz.pinned.checked.prog ++ Tryz.f5.resultTypes.toList).any (Tryz.pinned.checked.prog.wideKeysFrom ·))) = true := by kernel_rfl
theorem rankNames_f18 : ((OpenSpec.ofChange Rows.rankNamesSpec).bare.vars.all (Tryz.pinned.checked.prog.varReadable ·)) = true := by kernel_rfl
theorem rankNames_f19 : (Tryz.f5.resultTypes.all (fun t => Tryz.pinned.checked.prog.readableRec t && decide (t < Tryz.pinned.checked.prog.types.size))) = true := by kernel_rfl
theorem rankNames_f20 : ((Rows.rankNamesRow.ifacesOut == Tryz.f5.resultTypes.toList.any (Tryz.pinned.checked.prog.ifacesRec ·))) = true := by kernel_rfl
theorem rankNames_f21 : ((Rows.rankNamesRow.loopsOut == Tryz.f5.resultTypes.toList.any (Tryz.pinned.checked.prog.loopsFrom ·))) = true := by kernel_rfl
end Go.Proofs.YtdocondniobcdaaGreatDoor
