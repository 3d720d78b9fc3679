/-
  rosterlaw: closed facts of the row storeNil, part 3: what the form asks of the program and of the row, limb by limb.
-/
import Derived.Test.YtkidamemnogojaaGreatDoorCards
import Derived.Test.YtkidamemnogojaaGreatDoorTie
import Derived.ProofKit
import Derived.JoinedCond
import Derived.KernelRfl
namespace Go.Proofs.YtkidamemnogojaaGreatDoor
open Go.ChangeShapes Go.WideShapes Go.ChangeAt Go.RowKit

theorem storeNil_f12 : ((Rows.storeNilRow.named == Tryz.pinned.checked.prog.varsNamed 5)) = true := by kernel_rfl
theorem storeNil_f13 : ((Rows.storeNilRow.maps == (Tryz.f5.params.toList ++ (OpenSpec.ofChange Rows.storeNilSpec).bare.plain.varTypes Tryz.pinned.checked.prog).any (Tryz.pinned.checked.prog.mapsRec ·))) = true := by kernel_rfl
theorem storeNil_f14 : ((Rows.storeNilRow.ifaces == (Tryz.f5.params.toList ++ (OpenSpec.ofChange Rows.storeNilSpec).bare.plain.varTypes Tryz.pinned.checked.prog).any (Tryz.pinned.checked.prog.ifacesRec ·))) = true := by kernel_rfl
theorem storeNil_f15 : ((Rows.storeNilRow.mapsOut == Tryz.pinned.checked.prog.mapsAmong Tryz.f5.resultTypes.toList)) = true := by kernel_rfl
theorem storeNil_f16 : ((Rows.storeNilRow.loops == (Tryz.f5.params.toList ++ (OpenSpec.ofChange Rows.storeNilSpec).bare.plain.varTypes Tryz.pinned.checked.prog).any (Tryz.pinned.checked.prog.loopsFrom ·))) = true := by kernel_rfl
theorem storeNil_f17 : ((Rows.storeNilRow.wideKeys == (Tryz.f5.params.toList ++ (OpenSpec.ofChange Rows.storeNilSpec).bare.plain.varTypes Tryz.pinned.checked.prog ++ Tryz.f5.resultTypes.toList).any (Tryz.pinned.checked.prog.wideKeysFrom ·))) = true := by kernel_rfl
theorem storeNil_f18 : ((OpenSpec.ofChange Rows.storeNilSpec).bare.vars.all (Tryz.pinned.checked.prog.varReadable ·)) = true := by kernel_rfl
theorem storeNil_f19 : (Tryz.f5.resultTypes.all (fun t => Tryz.pinned.checked.prog.readableRec t && decide (t < Tryz.pinned.checked.prog.types.size))) = true := by kernel_rfl
theorem storeNil_f20 : ((Rows.storeNilRow.ifacesOut == Tryz.f5.resultTypes.toList.any (Tryz.pinned.checked.prog.ifacesRec ·))) = true := by kernel_rfl
theorem storeNil_f21 : ((Rows.storeNilRow.loopsOut == Tryz.f5.resultTypes.toList.any (Tryz.pinned.checked.prog.loopsFrom ·))) = true := by kernel_rfl
end Go.Proofs.YtkidamemnogojaaGreatDoor
