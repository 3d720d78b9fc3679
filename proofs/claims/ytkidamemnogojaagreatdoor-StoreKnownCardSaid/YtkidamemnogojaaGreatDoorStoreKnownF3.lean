/-
  rosterlaw: closed facts of the row storeKnown, part 3: what the form asks of the program and of the row, limb by limb.
-/
import Derived.Test.YtkidamemnogojaaGreatDoorCards
import Derived.Test.YtkidamemnogojaaGreatDoorTie
import Derived.ProofKit
import Derived.JoinedCond
import Derived.KernelRfl
namespace Go.Proofs.YtkidamemnogojaaGreatDoor
open Go.ChangeShapes Go.WideShapes Go.ChangeAt Go.RowKit

theorem storeKnown_f12 : ((Rows.storeKnownRow.named == Tryz.pinned.checked.prog.varsNamed 6)) = true := by kernel_rfl
theorem storeKnown_f13 : ((Rows.storeKnownRow.maps == (Tryz.f6.params.toList ++ (OpenSpec.ofChange Rows.storeKnownSpec).bare.plain.varTypes Tryz.pinned.checked.prog).any (Tryz.pinned.checked.prog.mapsRec ·))) = true := by kernel_rfl
theorem storeKnown_f14 : ((Rows.storeKnownRow.ifaces == (Tryz.f6.params.toList ++ (OpenSpec.ofChange Rows.storeKnownSpec).bare.plain.varTypes Tryz.pinned.checked.prog).any (Tryz.pinned.checked.prog.ifacesRec ·))) = true := by kernel_rfl
theorem storeKnown_f15 : ((Rows.storeKnownRow.mapsOut == Tryz.pinned.checked.prog.mapsAmong Tryz.f6.resultTypes.toList)) = true := by kernel_rfl
theorem storeKnown_f16 : ((Rows.storeKnownRow.loops == (Tryz.f6.params.toList ++ (OpenSpec.ofChange Rows.storeKnownSpec).bare.plain.varTypes Tryz.pinned.checked.prog).any (Tryz.pinned.checked.prog.loopsFrom ·))) = true := by kernel_rfl
theorem storeKnown_f17 : ((Rows.storeKnownRow.wideKeys == (Tryz.f6.params.toList ++ (OpenSpec.ofChange Rows.storeKnownSpec).bare.plain.varTypes Tryz.pinned.checked.prog ++ Tryz.f6.resultTypes.toList).any (Tryz.pinned.checked.prog.wideKeysFrom ·))) = true := by kernel_rfl
theorem storeKnown_f18 : ((OpenSpec.ofChange Rows.storeKnownSpec).bare.vars.all (Tryz.pinned.checked.prog.varReadable ·)) = true := by kernel_rfl
theorem storeKnown_f19 : (Tryz.f6.resultTypes.all (fun t => Tryz.pinned.checked.prog.readableRec t && decide (t < Tryz.pinned.checked.prog.types.size))) = true := by kernel_rfl
theorem storeKnown_f20 : ((Rows.storeKnownRow.ifacesOut == Tryz.f6.resultTypes.toList.any (Tryz.pinned.checked.prog.ifacesRec ·))) = true := by kernel_rfl
theorem storeKnown_f21 : ((Rows.storeKnownRow.loopsOut == Tryz.f6.resultTypes.toList.any (Tryz.pinned.checked.prog.loopsFrom ·))) = true := by kernel_rfl
end Go.Proofs.YtkidamemnogojaaGreatDoor
