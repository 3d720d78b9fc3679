/-
  rosterlaw: closed facts of the row indexNil, part 3: what the form asks of the program and of the row, limb by limb.
-/
import Derived.Test.YtkidamemnogojaaGreatDoorCards
import Derived.Test.YtkidamemnogojaaGreatDoorTie
import Derived.ProofKit
import Derived.JoinedCond
import Derived.KernelRfl
namespace Go.Proofs.YtkidamemnogojaaGreatDoor
open Go.ChangeShapes Go.WideShapes Go.ChangeAt Go.RowKit

theorem indexNil_f12 : ((Rows.indexNilRow.named == Tryz.pinned.checked.prog.varsNamed 3)) = true := by kernel_rfl
theorem indexNil_f13 : ((Rows.indexNilRow.maps == (Tryz.f3.params.toList ++ (OpenSpec.ofChange Rows.indexNilSpec).bare.plain.varTypes Tryz.pinned.checked.prog).any (Tryz.pinned.checked.prog.mapsRec ·))) = true := by kernel_rfl
theorem indexNil_f14 : ((Rows.indexNilRow.ifaces == (Tryz.f3.params.toList ++ (OpenSpec.ofChange Rows.indexNilSpec).bare.plain.varTypes Tryz.pinned.checked.prog).any (Tryz.pinned.checked.prog.ifacesRec ·))) = true := by kernel_rfl
theorem indexNil_f15 : ((Rows.indexNilRow.mapsOut == Tryz.pinned.checked.prog.mapsAmong Tryz.f3.resultTypes.toList)) = true := by kernel_rfl
theorem indexNil_f16 : ((Rows.indexNilRow.loops == (Tryz.f3.params.toList ++ (OpenSpec.ofChange Rows.indexNilSpec).bare.plain.varTypes Tryz.pinned.checked.prog).any (Tryz.pinned.checked.prog.loopsFrom ·))) = true := by kernel_rfl
theorem indexNil_f17 : ((Rows.indexNilRow.wideKeys == (Tryz.f3.params.toList ++ (OpenSpec.ofChange Rows.indexNilSpec).bare.plain.varTypes Tryz.pinned.checked.prog ++ Tryz.f3.resultTypes.toList).any (Tryz.pinned.checked.prog.wideKeysFrom ·))) = true := by kernel_rfl
theorem indexNil_f18 : ((OpenSpec.ofChange Rows.indexNilSpec).bare.vars.all (Tryz.pinned.checked.prog.varReadable ·)) = true := by kernel_rfl
theorem indexNil_f19 : (Tryz.f3.resultTypes.all (fun t => Tryz.pinned.checked.prog.readableRec t && decide (t < Tryz.pinned.checked.prog.types.size))) = true := by kernel_rfl
theorem indexNil_f20 : ((Rows.indexNilRow.ifacesOut == Tryz.f3.resultTypes.toList.any (Tryz.pinned.checked.prog.ifacesRec ·))) = true := by kernel_rfl
theorem indexNil_f21 : ((Rows.indexNilRow.loopsOut == Tryz.f3.resultTypes.toList.any (Tryz.pinned.checked.prog.loopsFrom ·))) = true := by kernel_rfl
end Go.Proofs.YtkidamemnogojaaGreatDoor
