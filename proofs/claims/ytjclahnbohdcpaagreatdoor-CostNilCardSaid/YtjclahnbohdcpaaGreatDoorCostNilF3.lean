/-
  rosterlaw: closed facts of the row costNil, part 3: what the form asks of the program and of the row, limb by limb.
-/
import Derived.Test.YtjclahnbohdcpaaGreatDoorCards
import Derived.Test.YtjclahnbohdcpaaGreatDoorTie
import Derived.ProofKit
import Derived.JoinedCond
import Derived.KernelRfl
namespace Go.Proofs.YtjclahnbohdcpaaGreatDoor
open Go.ChangeShapes Go.WideShapes Go.ChangeAt Go.RowKit

theorem costNil_f12 : ((Rows.costNilRow.named == Tryz.pinned.checked.prog.varsNamed 3)) = true := by kernel_rfl
theorem costNil_f13 : ((Rows.costNilRow.maps == (Tryz.f3.params.toList ++ (OpenSpec.ofChange Rows.costNilSpec).bare.plain.varTypes Tryz.pinned.checked.prog).any (Tryz.pinned.checked.prog.mapsRec ·))) = true := by kernel_rfl
theorem costNil_f14 : ((Rows.costNilRow.ifaces == (Tryz.f3.params.toList ++ (OpenSpec.ofChange Rows.costNilSpec).bare.plain.varTypes Tryz.pinned.checked.prog).any (Tryz.pinned.checked.prog.ifacesRec ·))) = true := by kernel_rfl
theorem costNil_f15 : ((Rows.costNilRow.mapsOut == Tryz.pinned.checked.prog.mapsAmong Tryz.f3.resultTypes.toList)) = true := by kernel_rfl
theorem costNil_f16 : ((Rows.costNilRow.loops == (Tryz.f3.params.toList ++ (OpenSpec.ofChange Rows.costNilSpec).bare.plain.varTypes Tryz.pinned.checked.prog).any (Tryz.pinned.checked.prog.loopsFrom ·))) = true := by kernel_rfl
theorem costNil_f17 : ((Rows.costNilRow.wideKeys == (Tryz.f3.params.toList ++ (OpenSpec.ofChange Rows.costNilSpec).bare.plain.varTypes Tryz.pinned.checked.prog ++ Tryz.f3.resultTypes.toList).any (Tryz.pinned.checked.prog.wideKeysFrom ·))) = true := by kernel_rfl
theorem costNil_f18 : ((OpenSpec.ofChange Rows.costNilSpec).bare.vars.all (Tryz.pinned.checked.prog.varReadable ·)) = true := by kernel_rfl
theorem costNil_f19 : (Tryz.f3.resultTypes.all (fun t => Tryz.pinned.checked.prog.readableRec t && decide (t < Tryz.pinned.checked.prog.types.size))) = true := by kernel_rfl
theorem costNil_f20 : ((Rows.costNilRow.ifacesOut == Tryz.f3.resultTypes.toList.any (Tryz.pinned.checked.prog.ifacesRec ·))) = true := by kernel_rfl
theorem costNil_f21 : ((Rows.costNilRow.loopsOut == Tryz.f3.resultTypes.toList.any (Tryz.pinned.checked.prog.loopsFrom ·))) = true := by kernel_rfl
end Go.Proofs.YtjclahnbohdcpaaGreatDoor
