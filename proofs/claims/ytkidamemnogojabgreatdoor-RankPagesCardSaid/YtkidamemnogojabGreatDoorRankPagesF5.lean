/-
  rosterlaw: closed facts of the row rankPages, part 5: what the form asks of the program and of the row, limb by limb.
-/
import Derived.Test.YtkidamemnogojabGreatDoorRankPagesF1
import Derived.Test.YtkidamemnogojabGreatDoorRankPagesF2
import Derived.Test.YtkidamemnogojabGreatDoorRankPagesF3
import Derived.Test.YtkidamemnogojabGreatDoorRankPagesF4
import Derived.ProofKit
import Derived.JoinedCond
import Derived.KernelRfl
namespace Go.Proofs.YtkidamemnogojabGreatDoor
open Go.ChangeShapes Go.WideShapes Go.ChangeAt Go.RowKit

theorem rankPages_and {a b : Bool} (h : a = true) (k : b = true) : (a && b) = true := by rw [h, k]; rfl
theorem rankPages_facts : joinedFacts Tryz.pinned.checked.prog 3 Tryz.f3 (OpenSpec.ofChange Rows.rankPagesSpec).bare Rows.rankPagesRow = true := by
  unfold joinedFacts
  refine rankPages_and ?_ ?_
  rotate_left
  exact rankPages_f31
  refine rankPages_and ?_ ?_
  rotate_left
  exact rankPages_f30
  refine rankPages_and ?_ ?_
  rotate_left
  exact rankPages_f29
  refine rankPages_and ?_ ?_
  rotate_left
  kernel_rfl
  refine rankPages_and ?_ ?_
  rotate_left
  exact rankPages_f27
  refine rankPages_and ?_ ?_
  rotate_left
  exact rankPages_f26
  refine rankPages_and ?_ ?_
  rotate_left
  exact rankPages_f25
  refine rankPages_and ?_ ?_
  rotate_left
  exact rankPages_f24
  refine rankPages_and ?_ ?_
  rotate_left
  exact rankPages_f23
  refine rankPages_and ?_ ?_
  rotate_left
  exact rankPages_f22
  refine rankPages_and ?_ ?_
  rotate_left
  exact rankPages_f21
  refine rankPages_and ?_ ?_
  rotate_left
  exact rankPages_f20
  refine rankPages_and ?_ ?_
  rotate_left
  exact rankPages_f19
  refine rankPages_and ?_ ?_
  rotate_left
  exact rankPages_f18
  refine rankPages_and ?_ ?_
  rotate_left
  exact rankPages_f17
  refine rankPages_and ?_ ?_
  rotate_left
  exact rankPages_f16
  refine rankPages_and ?_ ?_
  rotate_left
  exact rankPages_f15
  refine rankPages_and ?_ ?_
  rotate_left
  exact rankPages_f14
  refine rankPages_and ?_ ?_
  rotate_left
  exact rankPages_f13
  refine rankPages_and ?_ ?_
  rotate_left
  exact rankPages_f12
  refine rankPages_and ?_ ?_
  rotate_left
  exact rankPages_f11
  refine rankPages_and ?_ ?_
  rotate_left
  exact rankPages_f10
  refine rankPages_and ?_ ?_
  rotate_left
  exact rankPages_f9
  refine rankPages_and ?_ ?_
  rotate_left
  exact rankPages_f8
  refine rankPages_and ?_ ?_
  rotate_left
  exact rankPages_f7
  refine rankPages_and ?_ ?_
  rotate_left
  exact rankPages_f6
  refine rankPages_and ?_ ?_
  rotate_left
  exact rankPages_f5
  refine rankPages_and ?_ ?_
  rotate_left
  exact rankPages_f4
  refine rankPages_and ?_ ?_
  rotate_left
  exact rankPages_f3
  refine rankPages_and ?_ ?_
  rotate_left
  exact rankPages_f2
  refine rankPages_and ?_ ?_
  rotate_left
  exact rankPages_f1
  exact rankPages_f0
theorem rankPages_inst : Tryz.f3.isInstance Tryz.pinned.checked.prog Rows.rankPagesRow.origin Rows.rankPagesRow.targs := of_decide_eq_true (by kernel_rfl)
theorem rankPages_wrap : Tryz.f3.isWrapper Tryz.pinned.checked.prog Rows.rankPagesRow.wrapper Rows.rankPagesRow.mainSum := by unfold Func.isWrapper; first | (rw [if_pos (by decide +kernel)]; kernel_rfl) | (rw [if_neg (by decide +kernel)]; exact ⟨rfl, rfl⟩)
theorem rankPages_goes : false = Rows.rankPagesRow.goesBy Tryz.pinned.checked.prog := by kernel_rfl
theorem rankPages_looks : true = Tryz.pinned.checked.prog.looks [] := by kernel_rfl
theorem rankPages_named : Tryz.prog.funcNamed "roster/rosterlaw22.RankPages" = some 3 := by kernel_rfl
end Go.Proofs.YtkidamemnogojabGreatDoor
