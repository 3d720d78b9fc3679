/-
  rosterlaw: closed facts of the row storeNil, part 5: what the form asks of the program and of the row, limb by limb.
-/
import Derived.Test.YtkidamemnogojaaGreatDoorStoreNilF1
import Derived.Test.YtkidamemnogojaaGreatDoorStoreNilF2
import Derived.Test.YtkidamemnogojaaGreatDoorStoreNilF3
import Derived.Test.YtkidamemnogojaaGreatDoorStoreNilF4
import Derived.ProofKit
import Derived.JoinedCond
import Derived.KernelRfl
namespace Go.Proofs.YtkidamemnogojaaGreatDoor
open Go.ChangeShapes Go.WideShapes Go.ChangeAt Go.RowKit

theorem storeNil_and {a b : Bool} (h : a = true) (k : b = true) : (a && b) = true := by rw [h, k]; rfl
theorem storeNil_facts : joinedFacts Tryz.pinned.checked.prog 5 Tryz.f5 (OpenSpec.ofChange Rows.storeNilSpec).bare Rows.storeNilRow = true := by
  unfold joinedFacts
  refine storeNil_and ?_ ?_
  rotate_left
  exact storeNil_f31
  refine storeNil_and ?_ ?_
  rotate_left
  exact storeNil_f30
  refine storeNil_and ?_ ?_
  rotate_left
  exact storeNil_f29
  refine storeNil_and ?_ ?_
  rotate_left
  kernel_rfl
  refine storeNil_and ?_ ?_
  rotate_left
  exact storeNil_f27
  refine storeNil_and ?_ ?_
  rotate_left
  exact storeNil_f26
  refine storeNil_and ?_ ?_
  rotate_left
  exact storeNil_f25
  refine storeNil_and ?_ ?_
  rotate_left
  exact storeNil_f24
  refine storeNil_and ?_ ?_
  rotate_left
  exact storeNil_f23
  refine storeNil_and ?_ ?_
  rotate_left
  exact storeNil_f22
  refine storeNil_and ?_ ?_
  rotate_left
  exact storeNil_f21
  refine storeNil_and ?_ ?_
  rotate_left
  exact storeNil_f20
  refine storeNil_and ?_ ?_
  rotate_left
  exact storeNil_f19
  refine storeNil_and ?_ ?_
  rotate_left
  exact storeNil_f18
  refine storeNil_and ?_ ?_
  rotate_left
  exact storeNil_f17
  refine storeNil_and ?_ ?_
  rotate_left
  exact storeNil_f16
  refine storeNil_and ?_ ?_
  rotate_left
  exact storeNil_f15
  refine storeNil_and ?_ ?_
  rotate_left
  exact storeNil_f14
  refine storeNil_and ?_ ?_
  rotate_left
  exact storeNil_f13
  refine storeNil_and ?_ ?_
  rotate_left
  exact storeNil_f12
  refine storeNil_and ?_ ?_
  rotate_left
  exact storeNil_f11
  refine storeNil_and ?_ ?_
  rotate_left
  exact storeNil_f10
  refine storeNil_and ?_ ?_
  rotate_left
  exact storeNil_f9
  refine storeNil_and ?_ ?_
  rotate_left
  exact storeNil_f8
  refine storeNil_and ?_ ?_
  rotate_left
  exact storeNil_f7
  refine storeNil_and ?_ ?_
  rotate_left
  exact storeNil_f6
  refine storeNil_and ?_ ?_
  rotate_left
  exact storeNil_f5
  refine storeNil_and ?_ ?_
  rotate_left
  exact storeNil_f4
  refine storeNil_and ?_ ?_
  rotate_left
  exact storeNil_f3
  refine storeNil_and ?_ ?_
  rotate_left
  exact storeNil_f2
  refine storeNil_and ?_ ?_
  rotate_left
  exact storeNil_f1
  exact storeNil_f0
theorem storeNil_inst : Tryz.f5.isInstance Tryz.pinned.checked.prog Rows.storeNilRow.origin Rows.storeNilRow.targs := of_decide_eq_true (by kernel_rfl)
theorem storeNil_wrap : Tryz.f5.isWrapper Tryz.pinned.checked.prog Rows.storeNilRow.wrapper Rows.storeNilRow.mainSum := by unfold Func.isWrapper; first | (rw [if_pos (by decide +kernel)]; kernel_rfl) | (rw [if_neg (by decide +kernel)]; exact ⟨rfl, rfl⟩)
theorem storeNil_goes : false = Rows.storeNilRow.goesBy Tryz.pinned.checked.prog := by kernel_rfl
theorem storeNil_looks : true = Tryz.pinned.checked.prog.looks [] := by kernel_rfl
theorem storeNil_named : Tryz.prog.funcNamed "roster/rosterlaw15.StoreNil" = some 5 := by kernel_rfl
end Go.Proofs.YtkidamemnogojaaGreatDoor
