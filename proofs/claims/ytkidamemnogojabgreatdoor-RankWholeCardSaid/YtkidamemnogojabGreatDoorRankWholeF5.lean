/-
  rosterlaw: closed facts of the row rankWhole, part 5: what the form asks of the program and of the row, limb by limb.
-/
import Derived.Test.YtkidamemnogojabGreatDoorRankWholeF1
import Derived.Test.YtkidamemnogojabGreatDoorRankWholeF2
import Derived.Test.YtkidamemnogojabGreatDoorRankWholeF3
import Derived.Test.YtkidamemnogojabGreatDoorRankWholeF4
import Derived.ProofKit
import Derived.JoinedCond
import Derived.KernelRfl
namespace Go.Proofs.YtkidamemnogojabGreatDoor
open Go.ChangeShapes Go.WideShapes Go.ChangeAt Go.RowKit

theorem rankWhole_and {a b : Bool} (h : a = true) (k : b = true) : (a && b) = true := by rw [h, k]; rfl
theorem rankWhole_facts : joinedFacts Tryz.pinned.checked.prog 4 Tryz.f4 (OpenSpec.ofChange Rows.rankWholeSpec).bare Rows.rankWholeRow = true := by
  unfold joinedFacts
  refine rankWhole_and ?_ ?_
  rotate_left
  exact rankWhole_f31
  refine rankWhole_and ?_ ?_
  rotate_left
  exact rankWhole_f30
  refine rankWhole_and ?_ ?_
  rotate_left
  exact rankWhole_f29
  refine rankWhole_and ?_ ?_
  rotate_left
  kernel_rfl
  refine rankWhole_and ?_ ?_
  rotate_left
  exact rankWhole_f27
  refine rankWhole_and ?_ ?_
  rotate_left
  exact rankWhole_f26
  refine rankWhole_and ?_ ?_
  rotate_left
  exact rankWhole_f25
  refine rankWhole_and ?_ ?_
  rotate_left
  exact rankWhole_f24
  refine rankWhole_and ?_ ?_
  rotate_left
  exact rankWhole_f23
  refine rankWhole_and ?_ ?_
  rotate_left
  exact rankWhole_f22
  refine rankWhole_and ?_ ?_
  rotate_left
  exact rankWhole_f21
  refine rankWhole_and ?_ ?_
  rotate_left
  exact rankWhole_f20
  refine rankWhole_and ?_ ?_
  rotate_left
  exact rankWhole_f19
  refine rankWhole_and ?_ ?_
  rotate_left
  exact rankWhole_f18
  refine rankWhole_and ?_ ?_
  rotate_left
  exact rankWhole_f17
  refine rankWhole_and ?_ ?_
  rotate_left
  exact rankWhole_f16
  refine rankWhole_and ?_ ?_
  rotate_left
  exact rankWhole_f15
  refine rankWhole_and ?_ ?_
  rotate_left
  exact rankWhole_f14
  refine rankWhole_and ?_ ?_
  rotate_left
  exact rankWhole_f13
  refine rankWhole_and ?_ ?_
  rotate_left
  exact rankWhole_f12
  refine rankWhole_and ?_ ?_
  rotate_left
  exact rankWhole_f11
  refine rankWhole_and ?_ ?_
  rotate_left
  exact rankWhole_f10
  refine rankWhole_and ?_ ?_
  rotate_left
  exact rankWhole_f9
  refine rankWhole_and ?_ ?_
  rotate_left
  exact rankWhole_f8
  refine rankWhole_and ?_ ?_
  rotate_left
  exact rankWhole_f7
  refine rankWhole_and ?_ ?_
  rotate_left
  exact rankWhole_f6
  refine rankWhole_and ?_ ?_
  rotate_left
  exact rankWhole_f5
  refine rankWhole_and ?_ ?_
  rotate_left
  exact rankWhole_f4
  refine rankWhole_and ?_ ?_
  rotate_left
  exact rankWhole_f3
  refine rankWhole_and ?_ ?_
  rotate_left
  exact rankWhole_f2
  refine rankWhole_and ?_ ?_
  rotate_left
  exact rankWhole_f1
  exact rankWhole_f0
theorem rankWhole_inst : Tryz.f4.isInstance Tryz.pinned.checked.prog Rows.rankWholeRow.origin Rows.rankWholeRow.targs := of_decide_eq_true (by kernel_rfl)
theorem rankWhole_wrap : Tryz.f4.isWrapper Tryz.pinned.checked.prog Rows.rankWholeRow.wrapper Rows.rankWholeRow.mainSum := by unfold Func.isWrapper; first | (rw [if_pos (by decide +kernel)]; kernel_rfl) | (rw [if_neg (by decide +kernel)]; exact ⟨rfl, rfl⟩)
theorem rankWhole_goes : false = Rows.rankWholeRow.goesBy Tryz.pinned.checked.prog := by kernel_rfl
theorem rankWhole_looks : true = Tryz.pinned.checked.prog.looks [] := by kernel_rfl
theorem rankWhole_named : Tryz.prog.funcNamed "roster/rosterlaw22.RankWhole" = some 4 := by kernel_rfl
end Go.Proofs.YtkidamemnogojabGreatDoor
