/-
  A world for the witnesses: the settled one, the listed variables holding what their initialisers lay.
  The witnesses' world holds the listed variables.
-/
import Derived.Test.YtdkfmckbeagenaaGreatDoorRows
import Derived.ProofKit
import Derived.OpenShut
import Derived.Deep.DeepHandedRow
import Derived.Deep.DeepWitnessRowRef
import Derived.Lib.LaidTab
import Derived.Lay
import Derived.Lib.LaidIn
namespace Go.Proofs.YtdkfmckbeagenaaGreatDoor
open Go.ChangeShapes Go.WideShapes Go.ChangeAt Go.RowKit

theorem own : ownKnob Tryz.prog.godebug = none := by kernel_rfl
noncomputable def laidWorld0 (os : Os) : World := World.laidAll Tryz.prog os Rows.shapeNormalRow.laid
theorem laidWorld0_os (os : Os) : (laidWorld0 os).os = os := World.laidAll_os _ _ _
end Go.Proofs.YtdkfmckbeagenaaGreatDoor

namespace Go.Proofs.YtdkfmckbeagenaaGreatDoor

noncomputable abbrev wOf0 (os : Os) (args : Array Value) : World := ((laidWorld0 os).forCall (fun _ _ => 0) ⟨#[], args, []⟩).memory
theorem laid_met0 (os : Os) (args : Array Value) : laidMet Tryz.prog Rows.shapeNormalRow.laid (wOf0 os args) := laidMet_laidAll args (by kernel_rfl) (by kernel_rfl)
end Go.Proofs.YtdkfmckbeagenaaGreatDoor
