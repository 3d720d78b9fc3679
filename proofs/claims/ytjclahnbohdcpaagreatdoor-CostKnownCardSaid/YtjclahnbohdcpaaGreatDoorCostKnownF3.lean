/-
  rosterlaw: closed facts of the row costKnown, part 3: what the form asks of the program and of the row, limb by limb.
-/
import Derived.Test.YtjclahnbohdcpaaGreatDoorCards
import Derived.Test.YtjclahnbohdcpaaGreatDoorTie
import Derived.ProofKit
import Derived.JoinedCond
import Derived.KernelRfl
namespace Go.Proofs.YtjclahnbohdcpaaGreatDoor
open Go.ChangeShapes Go.WideShapes Go.ChangeAt Go.RowKit

theorem costKnown_f12 : ((Rows.costKnownRow.named == Tryz.pinned.checked.prog.varsNamed 4)) = true := by kernel_rfl
theorem costKnown_f13 : ((Rows.costKnownRow.maps == (Tryz.f4.params.toList ++ (OpenSpec.ofChange Rows.costKnownSpec).bare.plain.varTypes Tryz.pinned.checked.prog).any (Tryz.pinned.checked.prog.mapsRec ·))) = true := by kernel_rfl
theorem costKnown_f14 : ((Rows.costKnownRow.ifaces == (Tryz.f4.params.toList ++ (OpenSpec.ofChange Rows.costKnownSpec).bare.plain.varTypes Tryz.pinned.checked.prog).any (Tryz.pinned.checked.prog.ifacesRec ·))) = true := by kernel_rfl
theorem costKnown_f15 : ((Rows.costKnownRow.mapsOut == Tryz.pinned.checked.prog.mapsAmong Tryz.f4.resultTypes.toList)) = true := by kernel_rfl
theorem costKnown_f16 : ((Rows.costKnownRow.loops == (Tryz.f4.params.toList ++ (OpenSpec.ofChange Rows.costKnownSpec).bare.plain.varTypes Tryz.pinned.checked.prog).any (Tryz.pinned.checked.prog.loopsFrom ·))) = true := by kernel_rfl
theorem costKnown_f17 : ((Rows.costKnownRow.wideKeys == (Tryz.f4.params.toList ++ (OpenSpec.ofChange Rows.costKnownSpec).bare.plain.varTypes Tryz.pinned.checked.prog ++ Tryz.f4.resultTypes.toList).any (Tryz.pinned.checked.prog.wideKeysFrom ·))) = true := by kernel_rfl
theorem costKnown_f18 : ((OpenSpec.ofChange Rows.costKnownSpec).bare.vars.all (Tryz.pinned.checked.prog.varReadable ·)) = true := by kernel_rfl
theorem costKnown_f19 : (Tryz.f4.resultTypes.all (fun t => Tryz.pinned.checked.prog.readableRec t && decide (t < Tryz.pinned.checked.prog.types.size))) = true := by kernel_rfl
theorem costKnown_f20 : ((Rows.costKnownRow.ifacesOut == Tryz.f4.resultTypes.toList.any (Tryz.pinned.checked.prog.ifacesRec ·))) = true := by kernel_rfl
theorem costKnown_f21 : ((Rows.costKnownRow.loopsOut == Tryz.f4.resultTypes.toList.any (Tryz.pinned.checked.prog.loopsFrom ·))) = true := by kernel_rfl
end Go.Proofs.YtjclahnbohdcpaaGreatDoor
