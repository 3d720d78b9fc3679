/-
  rosterlaw: closed facts of the row storeNil, part 2: what the form asks of the program and of the row, limb by limb.
-/
import Derived.Test.YtkidamemnogojaaGreatDoorCards
import Derived.Test.YtkidamemnogojaaGreatDoorTie
import Derived.ProofKit
import Derived.JoinedCond
import Derived.KernelRfl
namespace Go.Proofs.YtkidamemnogojaaGreatDoor
open Go.ChangeShapes Go.WideShapes Go.ChangeAt Go.RowKit

theorem storeNil_f10 : ((Rows.storeNilRow.unfollowed == Tryz.pinned.checked.prog.unfollowed 5)) = true := by kernel_rfl
theorem storeNil_f11 : ((Rows.storeNilRow.recurses == Tryz.pinned.checked.prog.recurses 5)) = true := by kernel_rfl
end Go.Proofs.YtkidamemnogojaaGreatDoor
