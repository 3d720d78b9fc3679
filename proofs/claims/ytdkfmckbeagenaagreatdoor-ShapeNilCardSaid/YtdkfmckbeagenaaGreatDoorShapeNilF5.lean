/-
  rosterlaw: closed facts of the row shapeNil, part 5: what the form asks of the program and of the row, limb by limb.
-/
import Derived.Test.YtdkfmckbeagenaaGreatDoorShapeNilF1
import Derived.Test.YtdkfmckbeagenaaGreatDoorShapeNilF2
import Derived.Test.YtdkfmckbeagenaaGreatDoorShapeNilF3
import Derived.Test.YtdkfmckbeagenaaGreatDoorShapeNilF4
import Derived.ProofKit
import Derived.JoinedCond
import Derived.KernelRfl
namespace Go.Proofs.YtdkfmckbeagenaaGreatDoor
open Go.ChangeShapes Go.WideShapes Go.ChangeAt Go.RowKit

theorem shapeNil_and {a b : Bool} (h : a = true) (k : b = true) : (a && b) = true := by rw [h, k]; rfl
theorem shapeNil_facts : joinedFacts Tryz.pinned.checked.prog 4 Tryz.f4 (OpenSpec.ofChange Rows.shapeNilSpec).bare Rows.shapeNilRow = true := by
  unfold joinedFacts
  refine shapeNil_and ?_ ?_
  rotate_left
  exact shapeNil_f31
  refine shapeNil_and ?_ ?_
  rotate_left
  exact shapeNil_f30
  refine shapeNil_and ?_ ?_
  rotate_left
  exact shapeNil_f29
  refine shapeNil_and ?_ ?_
  rotate_left
  kernel_rfl
  refine shapeNil_and ?_ ?_
  rotate_left
  exact shapeNil_f27
  refine shapeNil_and ?_ ?_
  rotate_left
  exact shapeNil_f26
  refine shapeNil_and ?_ ?_
  rotate_left
  exact shapeNil_f25
  refine shapeNil_and ?_ ?_
  rotate_left
  exact shapeNil_f24
  refine shapeNil_and ?_ ?_
  rotate_left
  exact shapeNil_f23
  refine shapeNil_and ?_ ?_
  rotate_left
  exact shapeNil_f22
  refine shapeNil_and ?_ ?_
  rotate_left
  exact shapeNil_f21
  refine shapeNil_and ?_ ?_
  rotate_left
  exact shapeNil_f20
  refine shapeNil_and ?_ ?_
  rotate_left
  exact shapeNil_f19
  refine shapeNil_and ?_ ?_
  rotate_left
  exact shapeNil_f18
  refine shapeNil_and ?_ ?_
  rotate_left
  exact shapeNil_f17
  refine shapeNil_and ?_ ?_
  rotate_left
  exact shapeNil_f16
  refine shapeNil_and ?_ ?_
  rotate_left
  exact shapeNil_f15
  refine shapeNil_and ?_ ?_
  rotate_left
  exact shapeNil_f14
  refine shapeNil_and ?_ ?_
  rotate_left
  exact shapeNil_f13
  refine shapeNil_and ?_ ?_
  rotate_left
  exact shapeNil_f12
  refine shapeNil_and ?_ ?_
  rotate_left
  exact shapeNil_f11
  refine shapeNil_and ?_ ?_
  rotate_left
  exact shapeNil_f10
  refine shapeNil_and ?_ ?_
  rotate_left
  exact shapeNil_f9
  refine shapeNil_and ?_ ?_
  rotate_left
  exact shapeNil_f8
  refine shapeNil_and ?_ ?_
  rotate_left
  exact shapeNil_f7
  refine shapeNil_and ?_ ?_
  rotate_left
  exact shapeNil_f6
  refine shapeNil_and ?_ ?_
  rotate_left
  exact shapeNil_f5
  refine shapeNil_and ?_ ?_
  rotate_left
  exact shapeNil_f4
  refine shapeNil_and ?_ ?_
  rotate_left
  exact shapeNil_f3
  refine shapeNil_and ?_ ?_
  rotate_left
  exact shapeNil_f2
  refine shapeNil_and ?_ ?_
  rotate_left
  exact shapeNil_f1
  exact shapeNil_f0
theorem shapeNil_inst : Tryz.f4.isInstance Tryz.pinned.checked.prog Rows.shapeNilRow.origin Rows.shapeNilRow.targs := of_decide_eq_true (by kernel_rfl)
theorem shapeNil_wrap : Tryz.f4.isWrapper Tryz.pinned.checked.prog Rows.shapeNilRow.wrapper Rows.shapeNilRow.mainSum := by unfold Func.isWrapper; first | (rw [if_pos (by decide +kernel)]; kernel_rfl) | (rw [if_neg (by decide +kernel)]; exact ⟨rfl, rfl⟩)
theorem shapeNil_goes : false = Rows.shapeNilRow.goesBy Tryz.pinned.checked.prog := by kernel_rfl
theorem shapeNil_looks : true = Tryz.pinned.checked.prog.looks [] := by kernel_rfl
theorem shapeNil_named : Tryz.prog.funcNamed "roster/rosterlaw16.ShapeNil" = some 4 := by kernel_rfl
end Go.Proofs.YtdkfmckbeagenaaGreatDoor
