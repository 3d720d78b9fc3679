/-
  rosterlaw: closed facts of the row entryKnown, part 3: what the form asks of the program and of the row, limb by limb.
-/
import Derived.Test.YtiiadibbkijnhaaGreatDoorCards
import Derived.Test.YtiiadibbkijnhaaGreatDoorTie
import Derived.ProofKit
import Derived.JoinedCond
import Derived.KernelRfl
namespace Go.Proofs.YtiiadibbkijnhaaGreatDoor
open Go.ChangeShapes Go.WideShapes Go.ChangeAt Go.RowKit

theorem entryKnown_f12 : ((Rows.entryKnownRow.named == Tryz.pinned.checked.prog.varsNamed 4)) = true := by kernel_rfl
theorem entryKnown_f13 : ((Rows.entryKnownRow.maps == (Tryz.f4.params.toList ++ (OpenSpec.ofChange Rows.entryKnownSpec).bare.plain.varTypes Tryz.pinned.checked.prog).any (Tryz.pinned.checked.prog.mapsRec ·))) = true := by kernel_rfl
theorem entryKnown_f14 : ((Rows.entryKnownRow.ifaces == (Tryz.f4.params.toList ++ (OpenSpec.ofChange Rows.entryKnownSpec).bare.plain.varTypes Tryz.pinned.checked.prog).any (Tryz.pinned.checked.prog.ifacesRec ·))) = true := by kernel_rfl
theorem entryKnown_f15 : ((Rows.entryKnownRow.mapsOut == Tryz.pinned.checked.prog.mapsAmong Tryz.f4.resultTypes.toList)) = true := by kernel_rfl
theorem entryKnown_f16 : ((Rows.entryKnownRow.loops == (Tryz.f4.params.toList ++ (OpenSpec.ofChange Rows.entryKnownSpec).bare.plain.varTypes Tryz.pinned.checked.prog).any (Tryz.pinned.checked.prog.loopsFrom ·))) = true := by kernel_rfl
theorem entryKnown_f17 : ((Rows.entryKnownRow.wideKeys == (Tryz.f4.params.toList ++ (OpenSpec.ofChange Rows.entryKnownSpec).bare.plain.varTypes Tryz.pinned.checked.prog ++ Tryz.f4.resultTypes.toList).any (Tryz.pinned.checked.prog.wideKeysFrom ·))) = true := by kernel_rfl
theorem entryKnown_f18 : ((OpenSpec.ofChange Rows.entryKnownSpec).bare.vars.all (Tryz.pinned.checked.prog.varReadable ·)) = true := by kernel_rfl
theorem entryKnown_f19 : (Tryz.f4.resultTypes.all (fun t => Tryz.pinned.checked.prog.readableRec t && decide (t < Tryz.pinned.checked.prog.types.size))) = true := by kernel_rfl
theorem entryKnown_f20 : ((Rows.entryKnownRow.ifacesOut == Tryz.f4.resultTypes.toList.any (Tryz.pinned.checked.prog.ifacesRec ·))) = true := by kernel_rfl
theorem entryKnown_f21 : ((Rows.entryKnownRow.loopsOut == Tryz.f4.resultTypes.toList.any (Tryz.pinned.checked.prog.loopsFrom ·))) = true := by kernel_rfl
end Go.Proofs.YtiiadibbkijnhaaGreatDoor
