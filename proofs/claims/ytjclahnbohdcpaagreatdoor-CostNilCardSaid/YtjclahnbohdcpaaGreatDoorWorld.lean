/-
  A world for the witnesses: the settled one, the listed variables holding what their initialisers lay.
-/
import Derived.Test.YtjclahnbohdcpaaGreatDoorRows
import Derived.ProofKit
import Derived.OpenShut
import Derived.Deep.DeepHandedRow
import Derived.Deep.DeepWitnessRowRef
import Derived.Lib.LaidTab
import Derived.Lay
namespace Go.Proofs.YtjclahnbohdcpaaGreatDoor
open Go.ChangeShapes Go.WideShapes Go.ChangeAt Go.RowKit

theorem own : ownKnob Tryz.prog.godebug = none := by kernel_rfl

noncomputable def laidWorld0 (os : Os) : World := World.laidAll Tryz.prog os Rows.costNilRow.laid
theorem laidWorld0_os (os : Os) : (laidWorld0 os).os = os := World.laidAll_os _ _ _
end Go.Proofs.YtjclahnbohdcpaaGreatDoor
