/-
  rosterlaw: closed facts of the row entrySame, part 2: what the form asks of the program and of the row, limb by limb.
-/
import Derived.Test.YtiiadibbkijnhaaGreatDoorCards
import Derived.Test.YtiiadibbkijnhaaGreatDoorTie
import Derived.ProofKit
import Derived.JoinedCond
import Derived.KernelRfl
namespace Go.Proofs.YtiiadibbkijnhaaGreatDoor
open Go.ChangeShapes Go.WideShapes Go.ChangeAt Go.RowKit

theorem entrySame_f10 : ((Rows.entrySameRow.unfollowed == Tryz.pinned.checked.prog.unfollowed 5)) = true := by kernel_rfl
theorem entrySame_f11 : ((Rows.entrySameRow.recurses == Tryz.pinned.checked.prog.recurses 5)) = true := by kernel_rfl
end Go.Proofs.YtiiadibbkijnhaaGreatDoor
