/-
  rosterlaw: closed facts of the row entryKnown, part 5: what the form asks of the program and of the row, limb by limb.
-/
import Derived.Test.YtiiadibbkijnhaaGreatDoorEntryKnownF1
import Derived.Test.YtiiadibbkijnhaaGreatDoorEntryKnownF2
import Derived.Test.YtiiadibbkijnhaaGreatDoorEntryKnownF3
import Derived.Test.YtiiadibbkijnhaaGreatDoorEntryKnownF4
import Derived.ProofKit
import Derived.JoinedCond
import Derived.KernelRfl
namespace Go.Proofs.YtiiadibbkijnhaaGreatDoor
open Go.ChangeShapes Go.WideShapes Go.ChangeAt Go.RowKit

theorem entryKnown_and {a b : Bool} (h : a = true) (k : b = true) : (a && b) = true := by rw [h, k]; rfl
theorem entryKnown_facts : joinedFacts Tryz.pinned.checked.prog 4 Tryz.f4 (OpenSpec.ofChange Rows.entryKnownSpec).bare Rows.entryKnownRow = true := by
  unfold joinedFacts
  refine entryKnown_and ?_ ?_
  rotate_left
  exact entryKnown_f31
  refine entryKnown_and ?_ ?_
  rotate_left
  exact entryKnown_f30
  refine entryKnown_and ?_ ?_
  rotate_left
  exact entryKnown_f29
  refine entryKnown_and ?_ ?_
  rotate_left
  kernel_rfl
  refine entryKnown_and ?_ ?_
  rotate_left
  exact entryKnown_f27
  refine entryKnown_and ?_ ?_
  rotate_left
  exact entryKnown_f26
  refine entryKnown_and ?_ ?_
  rotate_left
  exact entryKnown_f25
  refine entryKnown_and ?_ ?_
  rotate_left
  exact entryKnown_f24
  refine entryKnown_and ?_ ?_
  rotate_left
  exact entryKnown_f23
  refine entryKnown_and ?_ ?_
  rotate_left
  exact entryKnown_f22
  refine entryKnown_and ?_ ?_
  rotate_left
  exact entryKnown_f21
  refine entryKnown_and ?_ ?_
  rotate_left
  exact entryKnown_f20
  refine entryKnown_and ?_ ?_
  rotate_left
  exact entryKnown_f19
  refine entryKnown_and ?_ ?_
  rotate_left
  exact entryKnown_f18
  refine entryKnown_and ?_ ?_
  rotate_left
  exact entryKnown_f17
  refine entryKnown_and ?_ ?_
  rotate_left
  exact entryKnown_f16
  refine entryKnown_and ?_ ?_
  rotate_left
  exact entryKnown_f15
  refine entryKnown_and ?_ ?_
  rotate_left
  exact entryKnown_f14
  refine entryKnown_and ?_ ?_
  rotate_left
  exact entryKnown_f13
  refine entryKnown_and ?_ ?_
  rotate_left
  exact entryKnown_f12
  refine entryKnown_and ?_ ?_
  rotate_left
  exact entryKnown_f11
  refine entryKnown_and ?_ ?_
  rotate_left
  exact entryKnown_f10
  refine entryKnown_and ?_ ?_
  rotate_left
  exact entryKnown_f9
  refine entryKnown_and ?_ ?_
  rotate_left
  exact entryKnown_f8
  refine entryKnown_and ?_ ?_
  rotate_left
  exact entryKnown_f7
  refine entryKnown_and ?_ ?_
  rotate_left
  exact entryKnown_f6
  refine entryKnown_and ?_ ?_
  rotate_left
  exact entryKnown_f5
  refine entryKnown_and ?_ ?_
  rotate_left
  exact entryKnown_f4
  refine entryKnown_and ?_ ?_
  rotate_left
  exact entryKnown_f3
  refine entryKnown_and ?_ ?_
  rotate_left
  exact entryKnown_f2
  refine entryKnown_and ?_ ?_
  rotate_left
  exact entryKnown_f1
  exact entryKnown_f0
theorem entryKnown_inst : Tryz.f4.isInstance Tryz.pinned.checked.prog Rows.entryKnownRow.origin Rows.entryKnownRow.targs := of_decide_eq_true (by kernel_rfl)
theorem entryKnown_wrap : Tryz.f4.isWrapper Tryz.pinned.checked.prog Rows.entryKnownRow.wrapper Rows.entryKnownRow.mainSum := by unfold Func.isWrapper; first | (rw [if_pos (by decide +kernel)]; kernel_rfl) | (rw [if_neg (by decide +kernel)]; exact ⟨rfl, rfl⟩)
theorem entryKnown_goes : false = Rows.entryKnownRow.goesBy Tryz.pinned.checked.prog := by kernel_rfl
theorem entryKnown_looks : true = Tryz.pinned.checked.prog.looks [] := by kernel_rfl
theorem entryKnown_named : Tryz.prog.funcNamed "roster/rosterlaw08.EntryKnown" = some 4 := by kernel_rfl
end Go.Proofs.YtiiadibbkijnhaaGreatDoor
