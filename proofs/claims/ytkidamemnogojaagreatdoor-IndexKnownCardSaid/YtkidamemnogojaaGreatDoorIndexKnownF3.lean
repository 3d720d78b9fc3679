/-
  rosterlaw: closed facts of the row indexKnown, part 3: what the form asks of the program and of the row, limb by limb.
-/
import Derived.Test.YtkidamemnogojaaGreatDoorCards
import Derived.Test.YtkidamemnogojaaGreatDoorTie
import Derived.ProofKit
import Derived.JoinedCond
import Derived.KernelRfl
namespace Go.Proofs.YtkidamemnogojaaGreatDoor
open Go.ChangeShapes Go.WideShapes Go.ChangeAt Go.RowKit

theorem indexKnown_f12 : ((Rows.indexKnownRow.named == Tryz.pinned.checked.prog.varsNamed 4)) = true := by kernel_rfl
theorem indexKnown_f13 : ((Rows.indexKnownRow.maps == (Tryz.f4.params.toList ++ (OpenSpec.ofChange Rows.indexKnownSpec).bare.plain.varTypes Tryz.pinned.checked.prog).any (Tryz.pinned.checked.prog.mapsRec ·))) = true := by kernel_rfl
theorem indexKnown_f14 : ((Rows.indexKnownRow.ifaces == (Tryz.f4.params.toList ++ (OpenSpec.ofChange Rows.indexKnownSpec).bare.plain.varTypes Tryz.pinned.checked.prog).any (Tryz.pinned.checked.prog.ifacesRec ·))) = true := by kernel_rfl
theorem indexKnown_f15 : ((Rows.indexKnownRow.mapsOut == Tryz.pinned.checked.prog.mapsAmong Tryz.f4.resultTypes.toList)) = true := by kernel_rfl
theorem indexKnown_f16 : ((Rows.indexKnownRow.loops == (Tryz.f4.params.toList ++ (OpenSpec.ofChange Rows.indexKnownSpec).bare.plain.varTypes Tryz.pinned.checked.prog).any (Tryz.pinned.checked.prog.loopsFrom ·))) = true := by kernel_rfl
theorem indexKnown_f17 : ((Rows.indexKnownRow.wideKeys == (Tryz.f4.params.toList ++ (OpenSpec.ofChange Rows.indexKnownSpec).bare.plain.varTypes Tryz.pinned.checked.prog ++ Tryz.f4.resultTypes.toList).any (Tryz.pinned.checked.prog.wideKeysFrom ·))) = true := by kernel_rfl
theorem indexKnown_f18 : ((OpenSpec.ofChange Rows.indexKnownSpec).bare.vars.all (Tryz.pinned.checked.prog.varReadable ·)) = true := by kernel_rfl
theorem indexKnown_f19 : (Tryz.f4.resultTypes.all (fun t => Tryz.pinned.checked.prog.readableRec t && decide (t < Tryz.pinned.checked.prog.types.size))) = true := by kernel_rfl
theorem indexKnown_f20 : ((Rows.indexKnownRow.ifacesOut == Tryz.f4.resultTypes.toList.any (Tryz.pinned.checked.prog.ifacesRec ·))) = true := by kernel_rfl
theorem indexKnown_f21 : ((Rows.indexKnownRow.loopsOut == Tryz.f4.resultTypes.toList.any (Tryz.pinned.checked.prog.loopsFrom ·))) = true := by kernel_rfl
end Go.Proofs.YtkidamemnogojaaGreatDoor
