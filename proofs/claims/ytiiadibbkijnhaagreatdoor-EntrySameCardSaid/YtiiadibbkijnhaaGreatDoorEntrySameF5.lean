/-
  rosterlaw: closed facts of the row entrySame, part 5: what the form asks of the program and of the row, limb by limb.
-/
import Derived.Test.YtiiadibbkijnhaaGreatDoorEntrySameF1
import Derived.Test.YtiiadibbkijnhaaGreatDoorEntrySameF2
import Derived.Test.YtiiadibbkijnhaaGreatDoorEntrySameF3
import Derived.Test.YtiiadibbkijnhaaGreatDoorEntrySameF4
import Derived.ProofKit
import Derived.JoinedCond
import Derived.KernelRfl
namespace Go.Proofs.YtiiadibbkijnhaaGreatDoor
open Go.ChangeShapes Go.WideShapes Go.ChangeAt Go.RowKit

theorem entrySame_and {a b : Bool} (h : a = true) (k : b = true) : (a && b) = true := by rw [h, k]; rfl
theorem entrySame_facts : joinedFacts Tryz.pinned.checked.prog 5 Tryz.f5 (OpenSpec.ofChange Rows.entrySameSpec).bare Rows.entrySameRow = true := by
  unfold joinedFacts
  refine entrySame_and ?_ ?_
  rotate_left
  exact entrySame_f31
  refine entrySame_and ?_ ?_
  rotate_left
  exact entrySame_f30
  refine entrySame_and ?_ ?_
  rotate_left
  exact entrySame_f29
  refine entrySame_and ?_ ?_
  rotate_left
  kernel_rfl
  refine entrySame_and ?_ ?_
  rotate_left
  exact entrySame_f27
  refine entrySame_and ?_ ?_
  rotate_left
  exact entrySame_f26
  refine entrySame_and ?_ ?_
  rotate_left
  exact entrySame_f25
  refine entrySame_and ?_ ?_
  rotate_left
  exact entrySame_f24
  refine entrySame_and ?_ ?_
  rotate_left
  exact entrySame_f23
  refine entrySame_and ?_ ?_
  rotate_left
  exact entrySame_f22
  refine entrySame_and ?_ ?_
  rotate_left
  exact entrySame_f21
  refine entrySame_and ?_ ?_
  rotate_left
  exact entrySame_f20
  refine entrySame_and ?_ ?_
  rotate_left
  exact entrySame_f19
  refine entrySame_and ?_ ?_
  rotate_left
  exact entrySame_f18
  refine entrySame_and ?_ ?_
  rotate_left
  exact entrySame_f17
  refine entrySame_and ?_ ?_
  rotate_left
  exact entrySame_f16
  refine entrySame_and ?_ ?_
  rotate_left
  exact entrySame_f15
  refine entrySame_and ?_ ?_
  rotate_left
  exact entrySame_f14
  refine entrySame_and ?_ ?_
  rotate_left
  exact entrySame_f13
  refine entrySame_and ?_ ?_
  rotate_left
  exact entrySame_f12
  refine entrySame_and ?_ ?_
  rotate_left
  exact entrySame_f11
  refine entrySame_and ?_ ?_
  rotate_left
  exact entrySame_f10
  refine entrySame_and ?_ ?_
  rotate_left
  exact entrySame_f9
  refine entrySame_and ?_ ?_
  rotate_left
  exact entrySame_f8
  refine entrySame_and ?_ ?_
  rotate_left
  exact entrySame_f7
  refine entrySame_and ?_ ?_
  rotate_left
  exact entrySame_f6
  refine entrySame_and ?_ ?_
  rotate_left
  exact entrySame_f5
  refine entrySame_and ?_ ?_
  rotate_left
  exact entrySame_f4
  refine entrySame_and ?_ ?_
  rotate_left
  exact entrySame_f3
  refine entrySame_and ?_ ?_
  rotate_left
  exact entrySame_f2
  refine entrySame_and ?_ ?_
  rotate_left
  exact entrySame_f1
  exact entrySame_f0
theorem entrySame_inst : Tryz.f5.isInstance Tryz.pinned.checked.prog Rows.entrySameRow.origin Rows.entrySameRow.targs := of_decide_eq_true (by kernel_rfl)
theorem entrySame_wrap : Tryz.f5.isWrapper Tryz.pinned.checked.prog Rows.entrySameRow.wrapper Rows.entrySameRow.mainSum := by unfold Func.isWrapper; first | (rw [if_pos (by decide +kernel)]; kernel_rfl) | (rw [if_neg (by decide +kernel)]; exact ⟨rfl, rfl⟩)
theorem entrySame_goes : false = Rows.entrySameRow.goesBy Tryz.pinned.checked.prog := by kernel_rfl
theorem entrySame_looks : true = Tryz.pinned.checked.prog.looks [] := by kernel_rfl
theorem entrySame_named : Tryz.prog.funcNamed "roster/rosterlaw08.EntrySame" = some 5 := by kernel_rfl
end Go.Proofs.YtiiadibbkijnhaaGreatDoor
