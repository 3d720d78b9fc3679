/-
  rosterlaw: closed facts of the row shapeOrder, part 2: what the form asks of the program and of the row, limb by limb.
-/
import Derived.Test.YtdkfmckbeagenaaGreatDoorCards
import Derived.Test.YtdkfmckbeagenaaGreatDoorTie
import Derived.ProofKit
import Derived.JoinedCond
import Derived.KernelRfl
namespace Go.Proofs.YtdkfmckbeagenaaGreatDoor
open Go.ChangeShapes Go.WideShapes Go.ChangeAt Go.RowKit

theorem shapeOrder_f10 : ((Rows.shapeOrderRow.unfollowed == Tryz.pinned.checked.prog.unfollowed 5)) = true := by kernel_rfl
theorem shapeOrder_f11 : ((Rows.shapeOrderRow.recurses == Tryz.pinned.checked.prog.recurses 5)) = true := by kernel_rfl
end Go.Proofs.YtdkfmckbeagenaaGreatDoor
