/-
  rosterlaw: closed facts of the row costKnown, part 5: what the form asks of the program and of the row, limb by limb.
-/
import Derived.Test.YtjclahnbohdcpaaGreatDoorCostKnownF1
import Derived.Test.YtjclahnbohdcpaaGreatDoorCostKnownF2
import Derived.Test.YtjclahnbohdcpaaGreatDoorCostKnownF3
import Derived.Test.YtjclahnbohdcpaaGreatDoorCostKnownF4
import Derived.ProofKit
import Derived.JoinedCond
import Derived.KernelRfl
namespace Go.Proofs.YtjclahnbohdcpaaGreatDoor
open Go.ChangeShapes Go.WideShapes Go.ChangeAt Go.RowKit

theorem costKnown_and {a b : Bool} (h : a = true) (k : b = true) : (a && b) = true := by rw [h, k]; rfl
theorem costKnown_facts : joinedFacts Tryz.pinned.checked.prog 4 Tryz.f4 (OpenSpec.ofChange Rows.costKnownSpec).bare Rows.costKnownRow = true := by
  unfold joinedFacts
  refine costKnown_and ?_ ?_
  rotate_left
  exact costKnown_f31
  refine costKnown_and ?_ ?_
  rotate_left
  exact costKnown_f30
  refine costKnown_and ?_ ?_
  rotate_left
  exact costKnown_f29
  refine costKnown_and ?_ ?_
  rotate_left
  kernel_rfl
  refine costKnown_and ?_ ?_
  rotate_left
  exact costKnown_f27
  refine costKnown_and ?_ ?_
  rotate_left
  exact costKnown_f26
  refine costKnown_and ?_ ?_
  rotate_left
  exact costKnown_f25
  refine costKnown_and ?_ ?_
  rotate_left
  exact costKnown_f24
  refine costKnown_and ?_ ?_
  rotate_left
  exact costKnown_f23
  refine costKnown_and ?_ ?_
  rotate_left
  exact costKnown_f22
  refine costKnown_and ?_ ?_
  rotate_left
  exact costKnown_f21
  refine costKnown_and ?_ ?_
  rotate_left
  exact costKnown_f20
  refine costKnown_and ?_ ?_
  rotate_left
  exact costKnown_f19
  refine costKnown_and ?_ ?_
  rotate_left
  exact costKnown_f18
  refine costKnown_and ?_ ?_
  rotate_left
  exact costKnown_f17
  refine costKnown_and ?_ ?_
  rotate_left
  exact costKnown_f16
  refine costKnown_and ?_ ?_
  rotate_left
  exact costKnown_f15
  refine costKnown_and ?_ ?_
  rotate_left
  exact costKnown_f14
  refine costKnown_and ?_ ?_
  rotate_left
  exact costKnown_f13
  refine costKnown_and ?_ ?_
  rotate_left
  exact costKnown_f12
  refine costKnown_and ?_ ?_
  rotate_left
  exact costKnown_f11
  refine costKnown_and ?_ ?_
  rotate_left
  exact costKnown_f10
  refine costKnown_and ?_ ?_
  rotate_left
  exact costKnown_f9
  refine costKnown_and ?_ ?_
  rotate_left
  exact costKnown_f8
  refine costKnown_and ?_ ?_
  rotate_left
  exact costKnown_f7
  refine costKnown_and ?_ ?_
  rotate_left
  exact costKnown_f6
  refine costKnown_and ?_ ?_
  rotate_left
  exact costKnown_f5
  refine costKnown_and ?_ ?_
  rotate_left
  exact costKnown_f4
  refine costKnown_and ?_ ?_
  rotate_left
  exact costKnown_f3
  refine costKnown_and ?_ ?_
  rotate_left
  exact costKnown_f2
  refine costKnown_and ?_ ?_
  rotate_left
  exact costKnown_f1
  exact costKnown_f0
theorem costKnown_inst : Tryz.f4.isInstance Tryz.pinned.checked.prog Rows.costKnownRow.origin Rows.costKnownRow.targs := of_decide_eq_true (by kernel_rfl)
theorem costKnown_wrap : Tryz.f4.isWrapper Tryz.pinned.checked.prog Rows.costKnownRow.wrapper Rows.costKnownRow.mainSum := by unfold Func.isWrapper; first | (rw [if_pos (by decide +kernel)]; kernel_rfl) | (rw [if_neg (by decide +kernel)]; exact ⟨rfl, rfl⟩)
theorem costKnown_goes : false = Rows.costKnownRow.goesBy Tryz.pinned.checked.prog := by kernel_rfl
theorem costKnown_looks : true = Tryz.pinned.checked.prog.looks [] := by kernel_rfl
theorem costKnown_named : Tryz.prog.funcNamed "roster/rosterlaw17.CostKnown" = some 4 := by kernel_rfl
end Go.Proofs.YtjclahnbohdcpaaGreatDoor
