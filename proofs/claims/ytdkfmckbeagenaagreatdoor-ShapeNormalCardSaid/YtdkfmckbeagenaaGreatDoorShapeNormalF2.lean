/-
  rosterlaw: closed facts of the row shapeNormal, part 2: what the form asks of the program and of the row, limb by limb.
-/
import Derived.Test.YtdkfmckbeagenaaGreatDoorCards
import Derived.Test.YtdkfmckbeagenaaGreatDoorTie
import Derived.ProofKit
import Derived.JoinedCond
import Derived.KernelRfl
namespace Go.Proofs.YtdkfmckbeagenaaGreatDoor
open Go.ChangeShapes Go.WideShapes Go.ChangeAt Go.RowKit

theorem shapeNormal_f10 : ((Rows.shapeNormalRow.unfollowed == Tryz.pinned.checked.prog.unfollowed 3)) = true := by kernel_rfl
theorem shapeNormal_f11 : ((Rows.shapeNormalRow.recurses == Tryz.pinned.checked.prog.recurses 3)) = true := by kernel_rfl
end Go.Proofs.YtdkfmckbeagenaaGreatDoor
