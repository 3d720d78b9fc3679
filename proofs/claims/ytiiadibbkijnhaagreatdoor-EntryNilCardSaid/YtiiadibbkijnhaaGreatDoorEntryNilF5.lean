/-
  rosterlaw: closed facts of the row entryNil, part 5: what the form asks of the program and of the row, limb by limb.
-/
import Derived.Test.YtiiadibbkijnhaaGreatDoorEntryNilF1
import Derived.Test.YtiiadibbkijnhaaGreatDoorEntryNilF2
import Derived.Test.YtiiadibbkijnhaaGreatDoorEntryNilF3
import Derived.Test.YtiiadibbkijnhaaGreatDoorEntryNilF4
import Derived.ProofKit
import Derived.JoinedCond
import Derived.KernelRfl
namespace Go.Proofs.YtiiadibbkijnhaaGreatDoor
open Go.ChangeShapes Go.WideShapes Go.ChangeAt Go.RowKit

theorem entryNil_and {a b : Bool} (h : a = true) (k : b = true) : (a && b) = true := by rw [h, k]; rfl
theorem entryNil_facts : joinedFacts Tryz.pinned.checked.prog 3 Tryz.f3 (OpenSpec.ofChange Rows.entryNilSpec).bare Rows.entryNilRow = true := by
  unfold joinedFacts
  refine entryNil_and ?_ ?_
  rotate_left
  exact entryNil_f31
  refine entryNil_and ?_ ?_
  rotate_left
  exact entryNil_f30
  refine entryNil_and ?_ ?_
  rotate_left
  exact entryNil_f29
  refine entryNil_and ?_ ?_
  rotate_left
  kernel_rfl
  refine entryNil_and ?_ ?_
  rotate_left
  exact entryNil_f27
  refine entryNil_and ?_ ?_
  rotate_left
  exact entryNil_f26
  refine entryNil_and ?_ ?_
  rotate_left
  exact entryNil_f25
  refine entryNil_and ?_ ?_
  rotate_left
  exact entryNil_f24
  refine entryNil_and ?_ ?_
  rotate_left
  exact entryNil_f23
  refine entryNil_and ?_ ?_
  rotate_left
  exact entryNil_f22
  refine entryNil_and ?_ ?_
  rotate_left
  exact entryNil_f21
  refine entryNil_and ?_ ?_
  rotate_left
  exact entryNil_f20
  refine entryNil_and ?_ ?_
  rotate_left
  exact entryNil_f19
  refine entryNil_and ?_ ?_
  rotate_left
  exact entryNil_f18
  refine entryNil_and ?_ ?_
  rotate_left
  exact entryNil_f17
  refine entryNil_and ?_ ?_
  rotate_left
  exact entryNil_f16
  refine entryNil_and ?_ ?_
  rotate_left
  exact entryNil_f15
  refine entryNil_and ?_ ?_
  rotate_left
  exact entryNil_f14
  refine entryNil_and ?_ ?_
  rotate_left
  exact entryNil_f13
  refine entryNil_and ?_ ?_
  rotate_left
  exact entryNil_f12
  refine entryNil_and ?_ ?_
  rotate_left
  exact entryNil_f11
  refine entryNil_and ?_ ?_
  rotate_left
  exact entryNil_f10
  refine entryNil_and ?_ ?_
  rotate_left
  exact entryNil_f9
  refine entryNil_and ?_ ?_
  rotate_left
  exact entryNil_f8
  refine entryNil_and ?_ ?_
  rotate_left
  exact entryNil_f7
  refine entryNil_and ?_ ?_
  rotate_left
  exact entryNil_f6
  refine entryNil_and ?_ ?_
  rotate_left
  exact entryNil_f5
  refine entryNil_and ?_ ?_
  rotate_left
  exact entryNil_f4
  refine entryNil_and ?_ ?_
  rotate_left
  exact entryNil_f3
  refine entryNil_and ?_ ?_
  rotate_left
  exact entryNil_f2
  refine entryNil_and ?_ ?_
  rotate_left
  exact entryNil_f1
  exact entryNil_f0
theorem entryNil_inst : Tryz.f3.isInstance Tryz.pinned.checked.prog Rows.entryNilRow.origin Rows.entryNilRow.targs := of_decide_eq_true (by kernel_rfl)
theorem entryNil_wrap : Tryz.f3.isWrapper Tryz.pinned.checked.prog Rows.entryNilRow.wrapper Rows.entryNilRow.mainSum := by unfold Func.isWrapper; first | (rw [if_pos (by decide +kernel)]; kernel_rfl) | (rw [if_neg (by decide +kernel)]; exact ⟨rfl, rfl⟩)
theorem entryNil_goes : false = Rows.entryNilRow.goesBy Tryz.pinned.checked.prog := by kernel_rfl
theorem entryNil_looks : true = Tryz.pinned.checked.prog.looks [] := by kernel_rfl
theorem entryNil_named : Tryz.prog.funcNamed "roster/rosterlaw08.EntryNil" = some 3 := by kernel_rfl
end Go.Proofs.YtiiadibbkijnhaaGreatDoor
