/-
  rosterlaw: closed facts of the row storeKnown, part 5: what the form asks of the program and of the row, limb by limb.
-/
import Derived.Test.YtkidamemnogojaaGreatDoorStoreKnownF1
import Derived.Test.YtkidamemnogojaaGreatDoorStoreKnownF2
import Derived.Test.YtkidamemnogojaaGreatDoorStoreKnownF3
import Derived.Test.YtkidamemnogojaaGreatDoorStoreKnownF4
import Derived.ProofKit
import Derived.JoinedCond
import Derived.KernelRfl
namespace Go.Proofs.YtkidamemnogojaaGreatDoor
open Go.ChangeShapes Go.WideShapes Go.ChangeAt Go.RowKit

theorem storeKnown_and {a b : Bool} (h : a = true) (k : b = true) : (a && b) = true := by rw [h, k]; rfl
theorem storeKnown_facts : joinedFacts Tryz.pinned.checked.prog 6 Tryz.f6 (OpenSpec.ofChange Rows.storeKnownSpec).bare Rows.storeKnownRow = true := by
  unfold joinedFacts
  refine storeKnown_and ?_ ?_
  rotate_left
  exact storeKnown_f31
  refine storeKnown_and ?_ ?_
  rotate_left
  exact storeKnown_f30
  refine storeKnown_and ?_ ?_
  rotate_left
  exact storeKnown_f29
  refine storeKnown_and ?_ ?_
  rotate_left
  kernel_rfl
  refine storeKnown_and ?_ ?_
  rotate_left
  exact storeKnown_f27
  refine storeKnown_and ?_ ?_
  rotate_left
  exact storeKnown_f26
  refine storeKnown_and ?_ ?_
  rotate_left
  exact storeKnown_f25
  refine storeKnown_and ?_ ?_
  rotate_left
  exact storeKnown_f24
  refine storeKnown_and ?_ ?_
  rotate_left
  exact storeKnown_f23
  refine storeKnown_and ?_ ?_
  rotate_left
  exact storeKnown_f22
  refine storeKnown_and ?_ ?_
  rotate_left
  exact storeKnown_f21
  refine storeKnown_and ?_ ?_
  rotate_left
  exact storeKnown_f20
  refine storeKnown_and ?_ ?_
  rotate_left
  exact storeKnown_f19
  refine storeKnown_and ?_ ?_
  rotate_left
  exact storeKnown_f18
  refine storeKnown_and ?_ ?_
  rotate_left
  exact storeKnown_f17
  refine storeKnown_and ?_ ?_
  rotate_left
  exact storeKnown_f16
  refine storeKnown_and ?_ ?_
  rotate_left
  exact storeKnown_f15
  refine storeKnown_and ?_ ?_
  rotate_left
  exact storeKnown_f14
  refine storeKnown_and ?_ ?_
  rotate_left
  exact storeKnown_f13
  refine storeKnown_and ?_ ?_
  rotate_left
  exact storeKnown_f12
  refine storeKnown_and ?_ ?_
  rotate_left
  exact storeKnown_f11
  refine storeKnown_and ?_ ?_
  rotate_left
  exact storeKnown_f10
  refine storeKnown_and ?_ ?_
  rotate_left
  exact storeKnown_f9
  refine storeKnown_and ?_ ?_
  rotate_left
  exact storeKnown_f8
  refine storeKnown_and ?_ ?_
  rotate_left
  exact storeKnown_f7
  refine storeKnown_and ?_ ?_
  rotate_left
  exact storeKnown_f6
  refine storeKnown_and ?_ ?_
  rotate_left
  exact storeKnown_f5
  refine storeKnown_and ?_ ?_
  rotate_left
  exact storeKnown_f4
  refine storeKnown_and ?_ ?_
  rotate_left
  exact storeKnown_f3
  refine storeKnown_and ?_ ?_
  rotate_left
  exact storeKnown_f2
  refine storeKnown_and ?_ ?_
  rotate_left
  exact storeKnown_f1
  exact storeKnown_f0
theorem storeKnown_inst : Tryz.f6.isInstance Tryz.pinned.checked.prog Rows.storeKnownRow.origin Rows.storeKnownRow.targs := of_decide_eq_true (by kernel_rfl)
theorem storeKnown_wrap : Tryz.f6.isWrapper Tryz.pinned.checked.prog Rows.storeKnownRow.wrapper Rows.storeKnownRow.mainSum := by unfold Func.isWrapper; first | (rw [if_pos (by decide +kernel)]; kernel_rfl) | (rw [if_neg (by decide +kernel)]; exact ⟨rfl, rfl⟩)
theorem storeKnown_goes : false = Rows.storeKnownRow.goesBy Tryz.pinned.checked.prog := by kernel_rfl
theorem storeKnown_looks : true = Tryz.pinned.checked.prog.looks [] := by kernel_rfl
theorem storeKnown_named : Tryz.prog.funcNamed "roster/rosterlaw15.StoreKnown" = some 6 := by kernel_rfl
end Go.Proofs.YtkidamemnogojaaGreatDoor
