/-
  rosterlaw: closed facts of the row shapeOrder, part 5: what the form asks of the program and of the row, limb by limb.
-/
import Derived.Test.YtdkfmckbeagenaaGreatDoorShapeOrderF1
import Derived.Test.YtdkfmckbeagenaaGreatDoorShapeOrderF2
import Derived.Test.YtdkfmckbeagenaaGreatDoorShapeOrderF3
import Derived.Test.YtdkfmckbeagenaaGreatDoorShapeOrderF4
import Derived.ProofKit
import Derived.JoinedCond
import Derived.KernelRfl
namespace Go.Proofs.YtdkfmckbeagenaaGreatDoor
open Go.ChangeShapes Go.WideShapes Go.ChangeAt Go.RowKit

theorem shapeOrder_and {a b : Bool} (h : a = true) (k : b = true) : (a && b) = true := by rw [h, k]; rfl
theorem shapeOrder_facts : joinedFacts Tryz.pinned.checked.prog 5 Tryz.f5 (OpenSpec.ofChange Rows.shapeOrderSpec).bare Rows.shapeOrderRow = true := by
  unfold joinedFacts
  refine shapeOrder_and ?_ ?_
  rotate_left
  exact shapeOrder_f31
  refine shapeOrder_and ?_ ?_
  rotate_left
  exact shapeOrder_f30
  refine shapeOrder_and ?_ ?_
  rotate_left
  exact shapeOrder_f29
  refine shapeOrder_and ?_ ?_
  rotate_left
  kernel_rfl
  refine shapeOrder_and ?_ ?_
  rotate_left
  exact shapeOrder_f27
  refine shapeOrder_and ?_ ?_
  rotate_left
  exact shapeOrder_f26
  refine shapeOrder_and ?_ ?_
  rotate_left
  exact shapeOrder_f25
  refine shapeOrder_and ?_ ?_
  rotate_left
  exact shapeOrder_f24
  refine shapeOrder_and ?_ ?_
  rotate_left
  exact shapeOrder_f23
  refine shapeOrder_and ?_ ?_
  rotate_left
  exact shapeOrder_f22
  refine shapeOrder_and ?_ ?_
  rotate_left
  exact shapeOrder_f21
  refine shapeOrder_and ?_ ?_
  rotate_left
  exact shapeOrder_f20
  refine shapeOrder_and ?_ ?_
  rotate_left
  exact shapeOrder_f19
  refine shapeOrder_and ?_ ?_
  rotate_left
  exact shapeOrder_f18
  refine shapeOrder_and ?_ ?_
  rotate_left
  exact shapeOrder_f17
  refine shapeOrder_and ?_ ?_
  rotate_left
  exact shapeOrder_f16
  refine shapeOrder_and ?_ ?_
  rotate_left
  exact shapeOrder_f15
  refine shapeOrder_and ?_ ?_
  rotate_left
  exact shapeOrder_f14
  refine shapeOrder_and ?_ ?_
  rotate_left
  exact shapeOrder_f13
  refine shapeOrder_and ?_ ?_
  rotate_left
  exact shapeOrder_f12
  refine shapeOrder_and ?_ ?_
  rotate_left
  exact shapeOrder_f11
  refine shapeOrder_and ?_ ?_
  rotate_left
  exact shapeOrder_f10
  refine shapeOrder_and ?_ ?_
  rotate_left
  exact shapeOrder_f9
  refine shapeOrder_and ?_ ?_
  rotate_left
  exact shapeOrder_f8
  refine shapeOrder_and ?_ ?_
  rotate_left
  exact shapeOrder_f7
  refine shapeOrder_and ?_ ?_
  rotate_left
  exact shapeOrder_f6
  refine shapeOrder_and ?_ ?_
  rotate_left
  exact shapeOrder_f5
  refine shapeOrder_and ?_ ?_
  rotate_left
  exact shapeOrder_f4
  refine shapeOrder_and ?_ ?_
  rotate_left
  exact shapeOrder_f3
  refine shapeOrder_and ?_ ?_
  rotate_left
  exact shapeOrder_f2
  refine shapeOrder_and ?_ ?_
  rotate_left
  exact shapeOrder_f1
  exact shapeOrder_f0
theorem shapeOrder_inst : Tryz.f5.isInstance Tryz.pinned.checked.prog Rows.shapeOrderRow.origin Rows.shapeOrderRow.targs := of_decide_eq_true (by kernel_rfl)
theorem shapeOrder_wrap : Tryz.f5.isWrapper Tryz.pinned.checked.prog Rows.shapeOrderRow.wrapper Rows.shapeOrderRow.mainSum := by unfold Func.isWrapper; first | (rw [if_pos (by decide +kernel)]; kernel_rfl) | (rw [if_neg (by decide +kernel)]; exact ⟨rfl, rfl⟩)
theorem shapeOrder_goes : false = Rows.shapeOrderRow.goesBy Tryz.pinned.checked.prog := by kernel_rfl
theorem shapeOrder_looks : true = Tryz.pinned.checked.prog.looks [] := by kernel_rfl
theorem shapeOrder_named : Tryz.prog.funcNamed "roster/rosterlaw16.ShapeOrder" = some 5 := by kernel_rfl
end Go.Proofs.YtdkfmckbeagenaaGreatDoor
