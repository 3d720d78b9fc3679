/-
  rosterlaw: closed facts of the row costNil, part 5: what the form asks of the program and of the row, limb by limb.
-/
import Derived.Test.YtjclahnbohdcpaaGreatDoorCostNilF1
import Derived.Test.YtjclahnbohdcpaaGreatDoorCostNilF2
import Derived.Test.YtjclahnbohdcpaaGreatDoorCostNilF3
import Derived.Test.YtjclahnbohdcpaaGreatDoorCostNilF4
import Derived.ProofKit
import Derived.JoinedCond
import Derived.KernelRfl
namespace Go.Proofs.YtjclahnbohdcpaaGreatDoor
open Go.ChangeShapes Go.WideShapes Go.ChangeAt Go.RowKit

theorem costNil_and {a b : Bool} (h : a = true) (k : b = true) : (a && b) = true := by rw [h, k]; rfl
theorem costNil_facts : joinedFacts Tryz.pinned.checked.prog 3 Tryz.f3 (OpenSpec.ofChange Rows.costNilSpec).bare Rows.costNilRow = true := by
  unfold joinedFacts
  refine costNil_and ?_ ?_
  rotate_left
  exact costNil_f31
  refine costNil_and ?_ ?_
  rotate_left
  exact costNil_f30
  refine costNil_and ?_ ?_
  rotate_left
  exact costNil_f29
  refine costNil_and ?_ ?_
  rotate_left
  kernel_rfl
  refine costNil_and ?_ ?_
  rotate_left
  exact costNil_f27
  refine costNil_and ?_ ?_
  rotate_left
  exact costNil_f26
  refine costNil_and ?_ ?_
  rotate_left
  exact costNil_f25
  refine costNil_and ?_ ?_
  rotate_left
  exact costNil_f24
  refine costNil_and ?_ ?_
  rotate_left
  exact costNil_f23
  refine costNil_and ?_ ?_
  rotate_left
  exact costNil_f22
  refine costNil_and ?_ ?_
  rotate_left
  exact costNil_f21
  refine costNil_and ?_ ?_
  rotate_left
  exact costNil_f20
  refine costNil_and ?_ ?_
  rotate_left
  exact costNil_f19
  refine costNil_and ?_ ?_
  rotate_left
  exact costNil_f18
  refine costNil_and ?_ ?_
  rotate_left
  exact costNil_f17
  refine costNil_and ?_ ?_
  rotate_left
  exact costNil_f16
  refine costNil_and ?_ ?_
  rotate_left
  exact costNil_f15
  refine costNil_and ?_ ?_
  rotate_left
  exact costNil_f14
  refine costNil_and ?_ ?_
  rotate_left
  exact costNil_f13
  refine costNil_and ?_ ?_
  rotate_left
  exact costNil_f12
  refine costNil_and ?_ ?_
  rotate_left
  exact costNil_f11
  refine costNil_and ?_ ?_
  rotate_left
  exact costNil_f10
  refine costNil_and ?_ ?_
  rotate_left
  exact costNil_f9
  refine costNil_and ?_ ?_
  rotate_left
  exact costNil_f8
  refine costNil_and ?_ ?_
  rotate_left
  exact costNil_f7
  refine costNil_and ?_ ?_
  rotate_left
  exact costNil_f6
  refine costNil_and ?_ ?_
  rotate_left
  exact costNil_f5
  refine costNil_and ?_ ?_
  rotate_left
  exact costNil_f4
  refine costNil_and ?_ ?_
  rotate_left
  exact costNil_f3
  refine costNil_and ?_ ?_
  rotate_left
  exact costNil_f2
  refine costNil_and ?_ ?_
  rotate_left
  exact costNil_f1
  exact costNil_f0
theorem costNil_inst : Tryz.f3.isInstance Tryz.pinned.checked.prog Rows.costNilRow.origin Rows.costNilRow.targs := of_decide_eq_true (by kernel_rfl)
theorem costNil_wrap : Tryz.f3.isWrapper Tryz.pinned.checked.prog Rows.costNilRow.wrapper Rows.costNilRow.mainSum := by unfold Func.isWrapper; first | (rw [if_pos (by decide +kernel)]; kernel_rfl) | (rw [if_neg (by decide +kernel)]; exact ⟨rfl, rfl⟩)
theorem costNil_goes : false = Rows.costNilRow.goesBy Tryz.pinned.checked.prog := by kernel_rfl
theorem costNil_looks : true = Tryz.pinned.checked.prog.looks [] := by kernel_rfl
theorem costNil_named : Tryz.prog.funcNamed "roster/rosterlaw17.CostNil" = some 3 := by kernel_rfl
end Go.Proofs.YtjclahnbohdcpaaGreatDoor
