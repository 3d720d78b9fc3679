/-
  rosterlaw: closed facts of the row shapeNormal, part 5: what the form asks of the program and of the row, limb by limb.
-/
import Derived.Test.YtdkfmckbeagenaaGreatDoorShapeNormalF1
import Derived.Test.YtdkfmckbeagenaaGreatDoorShapeNormalF2
import Derived.Test.YtdkfmckbeagenaaGreatDoorShapeNormalF3
import Derived.Test.YtdkfmckbeagenaaGreatDoorShapeNormalF4
import Derived.ProofKit
import Derived.JoinedCond
import Derived.KernelRfl
namespace Go.Proofs.YtdkfmckbeagenaaGreatDoor
open Go.ChangeShapes Go.WideShapes Go.ChangeAt Go.RowKit

theorem shapeNormal_and {a b : Bool} (h : a = true) (k : b = true) : (a && b) = true := by rw [h, k]; rfl
theorem shapeNormal_facts : joinedFacts Tryz.pinned.checked.prog 3 Tryz.f3 (OpenSpec.ofChange Rows.shapeNormalSpec).bare Rows.shapeNormalRow = true := by
 unfold joinedFacts
 refine shapeNormal_and ?_ ?_
 rotate_left
 exact shapeNormal_f31
 refine shapeNormal_and ?_ ?_
 rotate_left
 exact shapeNormal_f30
 refine shapeNormal_and ?_ ?_
 rotate_left
 exact shapeNormal_f29
 refine shapeNormal_and ?_ ?_
 rotate_left
 kernel_rfl
 refine shapeNormal_and ?_ ?_
 rotate_left
 exact shapeNormal_f27
 refine shapeNormal_and ?_ ?_
 rotate_left
 exact shapeNormal_f26
 refine shapeNormal_and ?_ ?_
 rotate_left
 exact shapeNormal_f25
 refine shapeNormal_and ?_ ?_
 rotate_left
 exact shapeNormal_f24
 refine shapeNormal_and ?_ ?_
 rotate_left
 exact shapeNormal_f23
 refine shapeNormal_and ?_ ?_
 rotate_left
 exact shapeNormal_f22
 refine shapeNormal_and ?_ ?_
 rotate_left
 exact shapeNormal_f21
 refine shapeNormal_and ?_ ?_
 rotate_left
 exact shapeNormal_f20
 refine shapeNormal_and ?_ ?_
 rotate_left
 exact shapeNormal_f19
 refine shapeNormal_and ?_ ?_
 rotate_left
 exact shapeNormal_f18
 refine shapeNormal_and ?_ ?_
 rotate_left
 exact shapeNormal_f17
 refine shapeNormal_and ?_ ?_
 rotate_left
 exact shapeNormal_f16
 refine shapeNormal_and ?_ ?_
 rotate_left
 exact shapeNormal_f15
 refine shapeNormal_and ?_ ?_
 rotate_left
 exact shapeNormal_f14
 refine shapeNormal_and ?_ ?_
 rotate_left
 exact shapeNormal_f13
 refine shapeNormal_and ?_ ?_
 rotate_left
 exact shapeNormal_f12
 refine shapeNormal_and ?_ ?_
 rotate_left
 exact shapeNormal_f11
 refine shapeNormal_and ?_ ?_
 rotate_left
 exact shapeNormal_f10
 refine shapeNormal_and ?_ ?_
 rotate_left
 exact shapeNormal_f9
 refine shapeNormal_and ?_ ?_
 rotate_left
 exact shapeNormal_f8
 refine shapeNormal_and ?_ ?_
 rotate_left
 exact shapeNormal_f7
 refine shapeNormal_and ?_ ?_
 rotate_left
 exact shapeNormal_f6
 refine shapeNormal_and ?_ ?_
 rotate_left
 exact shapeNormal_f5
 refine shapeNormal_and ?_ ?_
 rotate_left
 exact shapeNormal_f4
 refine shapeNormal_and ?_ ?_
 rotate_left
 exact shapeNormal_f3
 refine shapeNormal_and ?_ ?_
 rotate_left
 exact shapeNormal_f2
 refine shapeNormal_and ?_ ?_
 rotate_left
 exact shapeNormal_f1
 exact shapeNormal_f0
theorem shapeNormal_inst : Tryz.f3.isInstance Tryz.pinned.checked.prog Rows.shapeNormalRow.origin Rows.shapeNormalRow.targs := of_decide_eq_true (by kernel_rfl)
theorem shapeNormal_wrap : Tryz.f3.isWrapper Tryz.pinned.checked.prog Rows.shapeNormalRow.wrapper Rows.shapeNormalRow.mainSum := by unfold Func.isWrapper; first | (rw [if_pos (by decide +kernel)]; kernel_rfl) | (rw [if_neg (by decide +kernel)]; exact ⟨rfl, rfl⟩)
theorem shapeNormal_goes : false = Rows.shapeNormalRow.goesBy Tryz.pinned.checked.prog := by kernel_rfl
theorem shapeNormal_looks : true = Tryz.pinned.checked.prog.looks [] := by kernel_rfl
theorem shapeNormal_named : Tryz.prog.funcNamed "roster/rosterlaw16.ShapeNormal" = some 3 := by kernel_rfl
end Go.Proofs.YtdkfmckbeagenaaGreatDoor
