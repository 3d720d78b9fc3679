/-
  rosterlaw: closed facts of the row indexKnown, part 5: what the form asks of the program and of the row, limb by limb.
-/
import Derived.Test.YtkidamemnogojaaGreatDoorIndexKnownF1
import Derived.Test.YtkidamemnogojaaGreatDoorIndexKnownF2
import Derived.Test.YtkidamemnogojaaGreatDoorIndexKnownF3
import Derived.Test.YtkidamemnogojaaGreatDoorIndexKnownF4
import Derived.ProofKit
import Derived.JoinedCond
import Derived.KernelRfl
namespace Go.Proofs.YtkidamemnogojaaGreatDoor
open Go.ChangeShapes Go.WideShapes Go.ChangeAt Go.RowKit

theorem indexKnown_and {a b : Bool} (h : a = true) (k : b = true) : (a && b) = true := by rw [h, k]; rfl
theorem indexKnown_facts : joinedFacts Tryz.pinned.checked.prog 4 Tryz.f4 (OpenSpec.ofChange Rows.indexKnownSpec).bare Rows.indexKnownRow = true := by
  unfold joinedFacts
  refine indexKnown_and ?_ ?_
  rotate_left
  exact indexKnown_f31
  refine indexKnown_and ?_ ?_
  rotate_left
  exact indexKnown_f30
  refine indexKnown_and ?_ ?_
  rotate_left
  exact indexKnown_f29
  refine indexKnown_and ?_ ?_
  rotate_left
  kernel_rfl
  refine indexKnown_and ?_ ?_
  rotate_left
  exact indexKnown_f27
  refine indexKnown_and ?_ ?_
  rotate_left
  exact indexKnown_f26
  refine indexKnown_and ?_ ?_
  rotate_left
  exact indexKnown_f25
  refine indexKnown_and ?_ ?_
  rotate_left
  exact indexKnown_f24
  refine indexKnown_and ?_ ?_
  rotate_left
  exact indexKnown_f23
  refine indexKnown_and ?_ ?_
  rotate_left
  exact indexKnown_f22
  refine indexKnown_and ?_ ?_
  rotate_left
  exact indexKnown_f21
  refine indexKnown_and ?_ ?_
  rotate_left
  exact indexKnown_f20
  refine indexKnown_and ?_ ?_
  rotate_left
  exact indexKnown_f19
  refine indexKnown_and ?_ ?_
  rotate_left
  exact indexKnown_f18
  refine indexKnown_and ?_ ?_
  rotate_left
  exact indexKnown_f17
  refine indexKnown_and ?_ ?_
  rotate_left
  exact indexKnown_f16
  refine indexKnown_and ?_ ?_
  rotate_left
  exact indexKnown_f15
  refine indexKnown_and ?_ ?_
  rotate_left
  exact indexKnown_f14
  refine indexKnown_and ?_ ?_
  rotate_left
  exact indexKnown_f13
  refine indexKnown_and ?_ ?_
  rotate_left
  exact indexKnown_f12
  refine indexKnown_and ?_ ?_
  rotate_left
  exact indexKnown_f11
  refine indexKnown_and ?_ ?_
  rotate_left
  exact indexKnown_f10
  refine indexKnown_and ?_ ?_
  rotate_left
  exact indexKnown_f9
  refine indexKnown_and ?_ ?_
  rotate_left
  exact indexKnown_f8
  refine indexKnown_and ?_ ?_
  rotate_left
  exact indexKnown_f7
  refine indexKnown_and ?_ ?_
  rotate_left
  exact indexKnown_f6
  refine indexKnown_and ?_ ?_
  rotate_left
  exact indexKnown_f5
  refine indexKnown_and ?_ ?_
  rotate_left
  exact indexKnown_f4
  refine indexKnown_and ?_ ?_
  rotate_left
  exact indexKnown_f3
  refine indexKnown_and ?_ ?_
  rotate_left
  exact indexKnown_f2
  refine indexKnown_and ?_ ?_
  rotate_left
  exact indexKnown_f1
  exact indexKnown_f0
theorem indexKnown_inst : Tryz.f4.isInstance Tryz.pinned.checked.prog Rows.indexKnownRow.origin Rows.indexKnownRow.targs := of_decide_eq_true (by kernel_rfl)
theorem indexKnown_wrap : Tryz.f4.isWrapper Tryz.pinned.checked.prog Rows.indexKnownRow.wrapper Rows.indexKnownRow.mainSum := by unfold Func.isWrapper; first | (rw [if_pos (by decide +kernel)]; kernel_rfl) | (rw [if_neg (by decide +kernel)]; exact ⟨rfl, rfl⟩)
theorem indexKnown_goes : false = Rows.indexKnownRow.goesBy Tryz.pinned.checked.prog := by kernel_rfl
theorem indexKnown_looks : true = Tryz.pinned.checked.prog.looks [] := by kernel_rfl
theorem indexKnown_named : Tryz.prog.funcNamed "roster/rosterlaw14.IndexKnown" = some 4 := by kernel_rfl
end Go.Proofs.YtkidamemnogojaaGreatDoor
