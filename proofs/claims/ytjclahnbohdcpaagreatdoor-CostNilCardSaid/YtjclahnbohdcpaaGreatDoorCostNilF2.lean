/-
  rosterlaw: closed facts of the row costNil, part 2: what the form asks of the program and of the row, limb by limb.
-/
import Derived.Test.YtjclahnbohdcpaaGreatDoorCards
import Derived.Test.YtjclahnbohdcpaaGreatDoorTie
import Derived.ProofKit
import Derived.JoinedCond
import Derived.KernelRfl
namespace Go.Proofs.YtjclahnbohdcpaaGreatDoor
open Go.ChangeShapes Go.WideShapes Go.ChangeAt Go.RowKit

theorem costNil_f10 : ((Rows.costNilRow.unfollowed == Tryz.pinned.checked.prog.unfollowed 3)) = true := by kernel_rfl
theorem costNil_f11 : ((Rows.costNilRow.recurses == Tryz.pinned.checked.prog.recurses 3)) = true := by kernel_rfl
end Go.Proofs.YtjclahnbohdcpaaGreatDoor
