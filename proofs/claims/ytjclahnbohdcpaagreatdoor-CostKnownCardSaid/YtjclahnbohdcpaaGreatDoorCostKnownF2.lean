/-
  rosterlaw: closed facts of the row costKnown, part 2: what the form asks of the program and of the row, limb by limb.
-/
import Derived.Test.YtjclahnbohdcpaaGreatDoorCards
import Derived.Test.YtjclahnbohdcpaaGreatDoorTie
import Derived.ProofKit
import Derived.JoinedCond
import Derived.KernelRfl
namespace Go.Proofs.YtjclahnbohdcpaaGreatDoor
open Go.ChangeShapes Go.WideShapes Go.ChangeAt Go.RowKit

theorem costKnown_f10 : ((Rows.costKnownRow.unfollowed == Tryz.pinned.checked.prog.unfollowed 4)) = true := by kernel_rfl
theorem costKnown_f11 : ((Rows.costKnownRow.recurses == Tryz.pinned.checked.prog.recurses 4)) = true := by kernel_rfl
end Go.Proofs.YtjclahnbohdcpaaGreatDoor
