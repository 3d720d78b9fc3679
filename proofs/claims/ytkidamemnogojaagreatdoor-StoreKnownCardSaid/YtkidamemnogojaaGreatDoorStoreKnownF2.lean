/-
  rosterlaw: closed facts of the row storeKnown, part 2: what the form asks of the program and of the row, limb by limb.
-/
import Derived.Test.YtkidamemnogojaaGreatDoorCards
import Derived.Test.YtkidamemnogojaaGreatDoorTie
import Derived.ProofKit
import Derived.JoinedCond
import Derived.KernelRfl
namespace Go.Proofs.YtkidamemnogojaaGreatDoor
open Go.ChangeShapes Go.WideShapes Go.ChangeAt Go.RowKit

theorem storeKnown_f10 : ((Rows.storeKnownRow.unfollowed == Tryz.pinned.checked.prog.unfollowed 6)) = true := by kernel_rfl
theorem storeKnown_f11 : ((Rows.storeKnownRow.recurses == Tryz.pinned.checked.prog.recurses 6)) = true := by kernel_rfl
end Go.Proofs.YtkidamemnogojaaGreatDoor
