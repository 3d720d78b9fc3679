/-
  rosterlaw: closed facts of the row rankNames, part 2: what the form asks of the program and of the row, limb by limb.
-/
import Derived.Test.YtdocondniobcdaaGreatDoorCards
import Derived.Test.YtdocondniobcdaaGreatDoorTie
import Derived.ProofKit
import Derived.JoinedCond
import Derived.KernelRfl
namespace Go.Proofs.YtdocondniobcdaaGreatDoor
open Go.ChangeShapes Go.WideShapes Go.ChangeAt Go.RowKit

theorem rankNames_f10 : ((Rows.rankNamesRow.unfollowed == Tryz.pinned.checked.prog.unfollowed 5)) = true := by kernel_rfl
theorem rankNames_f11 : ((Rows.rankNamesRow.recurses == Tryz.pinned.checked.prog.recurses 5)) = true := by kernel_rfl
end Go.Proofs.YtdocondniobcdaaGreatDoor
