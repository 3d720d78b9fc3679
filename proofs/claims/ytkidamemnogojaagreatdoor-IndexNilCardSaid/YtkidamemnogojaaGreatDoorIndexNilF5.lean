/-
  rosterlaw: closed facts of the row indexNil, part 5: what the form asks of the program and of the row, limb by limb.
-/
import Derived.Test.YtkidamemnogojaaGreatDoorIndexNilF1
import Derived.Test.YtkidamemnogojaaGreatDoorIndexNilF2
import Derived.Test.YtkidamemnogojaaGreatDoorIndexNilF3
import Derived.Test.YtkidamemnogojaaGreatDoorIndexNilF4
import Derived.ProofKit
import Derived.JoinedCond
import Derived.KernelRfl
namespace Go.Proofs.YtkidamemnogojaaGreatDoor
open Go.ChangeShapes Go.WideShapes Go.ChangeAt Go.RowKit

theorem indexNil_and {a b : Bool} (h : a = true) (k : b = true) : (a && b) = true := by rw [h, k]; rfl
theorem indexNil_facts : joinedFacts Tryz.pinned.checked.prog 3 Tryz.f3 (OpenSpec.ofChange Rows.indexNilSpec).bare Rows.indexNilRow = true := by
  unfold joinedFacts
  refine indexNil_and ?_ ?_
  rotate_left
  exact indexNil_f31
  refine indexNil_and ?_ ?_
  rotate_left
  exact indexNil_f30
  refine indexNil_and ?_ ?_
  rotate_left
  exact indexNil_f29
  refine indexNil_and ?_ ?_
  rotate_left
  kernel_rfl
  refine indexNil_and ?_ ?_
  rotate_left
  exact indexNil_f27
  refine indexNil_and ?_ ?_
  rotate_left
  exact indexNil_f26
  refine indexNil_and ?_ ?_
  rotate_left
  exact indexNil_f25
  refine indexNil_and ?_ ?_
  rotate_left
  exact indexNil_f24
  refine indexNil_and ?_ ?_
  rotate_left
  exact indexNil_f23
  refine indexNil_and ?_ ?_
  rotate_left
  exact indexNil_f22
  refine indexNil_and ?_ ?_
  rotate_left
  exact indexNil_f21
  refine indexNil_and ?_ ?_
  rotate_left
  exact indexNil_f20
  refine indexNil_and ?_ ?_
  rotate_left
  exact indexNil_f19
  refine indexNil_and ?_ ?_
  rotate_left
  exact indexNil_f18
  refine indexNil_and ?_ ?_
  rotate_left
  exact indexNil_f17
  refine indexNil_and ?_ ?_
  rotate_left
  exact indexNil_f16
  refine indexNil_and ?_ ?_
  rotate_left
  exact indexNil_f15
  refine indexNil_and ?_ ?_
  rotate_left
  exact indexNil_f14
  refine indexNil_and ?_ ?_
  rotate_left
  exact indexNil_f13
  refine indexNil_and ?_ ?_
  rotate_left
  exact indexNil_f12
  refine indexNil_and ?_ ?_
  rotate_left
  exact indexNil_f11
  refine indexNil_and ?_ ?_
  rotate_left
  exact indexNil_f10
  refine indexNil_and ?_ ?_
  rotate_left
  exact indexNil_f9
  refine indexNil_and ?_ ?_
  rotate_left
  exact indexNil_f8
  refine indexNil_and ?_ ?_
  rotate_left
  exact indexNil_f7
  refine indexNil_and ?_ ?_
  rotate_left
  exact indexNil_f6
  refine indexNil_and ?_ ?_
  rotate_left
  exact indexNil_f5
  refine indexNil_and ?_ ?_
  rotate_left
  exact indexNil_f4
  refine indexNil_and ?_ ?_
  rotate_left
  exact indexNil_f3
  refine indexNil_and ?_ ?_
  rotate_left
  exact indexNil_f2
  refine indexNil_and ?_ ?_
  rotate_left
  exact indexNil_f1
  exact indexNil_f0
theorem indexNil_inst : Tryz.f3.isInstance Tryz.pinned.checked.prog Rows.indexNilRow.origin Rows.indexNilRow.targs := of_decide_eq_true (by kernel_rfl)
theorem indexNil_wrap : Tryz.f3.isWrapper Tryz.pinned.checked.prog Rows.indexNilRow.wrapper Rows.indexNilRow.mainSum := by unfold Func.isWrapper; first | (rw [if_pos (by decide +kernel)]; kernel_rfl) | (rw [if_neg (by decide +kernel)]; exact ⟨rfl, rfl⟩)
theorem indexNil_goes : false = Rows.indexNilRow.goesBy Tryz.pinned.checked.prog := by kernel_rfl
theorem indexNil_looks : true = Tryz.pinned.checked.prog.looks [] := by kernel_rfl
theorem indexNil_named : Tryz.prog.funcNamed "roster/rosterlaw14.IndexNil" = some 3 := by kernel_rfl
end Go.Proofs.YtkidamemnogojaaGreatDoor
