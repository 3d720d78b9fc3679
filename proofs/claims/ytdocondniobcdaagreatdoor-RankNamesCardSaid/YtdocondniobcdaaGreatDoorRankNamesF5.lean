/-
  rosterlaw: closed facts of the row rankNames, part 5: what the form asks of the program and of the row, limb by limb.
-/
import Derived.Test.YtdocondniobcdaaGreatDoorRankNamesF1
import Derived.Test.YtdocondniobcdaaGreatDoorRankNamesF2
import Derived.Test.YtdocondniobcdaaGreatDoorRankNamesF3
import Derived.Test.YtdocondniobcdaaGreatDoorRankNamesF4
import Derived.ProofKit
import Derived.JoinedCond
import Derived.KernelRfl
namespace Go.Proofs.YtdocondniobcdaaGreatDoor
open Go.ChangeShapes Go.WideShapes Go.ChangeAt Go.RowKit

theorem rankNames_and {a b : Bool} (h : a = true) (k : b = true) : (a && b) = true := by rw [h, k]; rfl
theorem rankNames_facts : joinedFacts Tryz.pinned.checked.prog 5 Tryz.f5 (OpenSpec.ofChange Rows.rankNamesSpec).bare Rows.rankNamesRow = true := by
  unfold joinedFacts
  refine rankNames_and ?_ ?_
  rotate_left
  exact rankNames_f31
  refine rankNames_and ?_ ?_
  rotate_left
  exact rankNames_f30
  refine rankNames_and ?_ ?_
  rotate_left
  exact rankNames_f29
  refine rankNames_and ?_ ?_
  rotate_left
  kernel_rfl
  refine rankNames_and ?_ ?_
  rotate_left
  exact rankNames_f27
  refine rankNames_and ?_ ?_
  rotate_left
  exact rankNames_f26
  refine rankNames_and ?_ ?_
  rotate_left
  exact rankNames_f25
  refine rankNames_and ?_ ?_
  rotate_left
  exact rankNames_f24
  refine rankNames_and ?_ ?_
  rotate_left
  exact rankNames_f23
  refine rankNames_and ?_ ?_
  rotate_left
  exact rankNames_f22
  refine rankNames_and ?_ ?_
  rotate_left
  exact rankNames_f21
  refine rankNames_and ?_ ?_
  rotate_left
  exact rankNames_f20
  refine rankNames_and ?_ ?_
  rotate_left
  exact rankNames_f19
  refine rankNames_and ?_ ?_
  rotate_left
  exact rankNames_f18
  refine rankNames_and ?_ ?_
  rotate_left
  exact rankNames_f17
  refine rankNames_and ?_ ?_
  rotate_left
  exact rankNames_f16
  refine rankNames_and ?_ ?_
  rotate_left
  exact rankNames_f15
  refine rankNames_and ?_ ?_
  rotate_left
  exact rankNames_f14
  refine rankNames_and ?_ ?_
  rotate_left
  exact rankNames_f13
  refine rankNames_and ?_ ?_
  rotate_left
  exact rankNames_f12
  refine rankNames_and ?_ ?_
  rotate_left
  exact rankNames_f11
  refine rankNames_and ?_ ?_
  rotate_left
  exact rankNames_f10
  refine rankNames_and ?_ ?_
  rotate_left
  exact rankNames_f9
  refine rankNames_and ?_ ?_
  rotate_left
  exact rankNames_f8
  refine rankNames_and ?_ ?_
  rotate_left
  exact rankNames_f7
  refine rankNames_and ?_ ?_
  rotate_left
  exact rankNames_f6
  refine rankNames_and ?_ ?_
  rotate_left
  exact rankNames_f5
  refine rankNames_and ?_ ?_
  rotate_left
  exact rankNames_f4
  refine rankNames_and ?_ ?_
  rotate_left
  exact rankNames_f3
  refine rankNames_and ?_ ?_
  rotate_left
  exact rankNames_f2
  refine rankNames_and ?_ ?_
  rotate_left
  exact rankNames_f1
  exact rankNames_f0
theorem rankNames_inst : Tryz.f5.isInstance Tryz.pinned.checked.prog Rows.rankNamesRow.origin Rows.rankNamesRow.targs := of_decide_eq_true (by kernel_rfl)
theorem rankNames_wrap : Tryz.f5.isWrapper Tryz.pinned.checked.prog Rows.rankNamesRow.wrapper Rows.rankNamesRow.mainSum := by unfold Func.isWrapper; first | (rw [if_pos (by decide +kernel)]; kernel_rfl) | (rw [if_neg (by decide +kernel)]; exact ⟨rfl, rfl⟩)
end Go.Proofs.YtdocondniobcdaaGreatDoor
