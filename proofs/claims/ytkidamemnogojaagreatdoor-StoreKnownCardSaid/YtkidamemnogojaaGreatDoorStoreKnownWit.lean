/-
  The witness of roster/rosterlaw15.StoreKnown: its closed facts.
-/
import Derived.Test.YtkidamemnogojaaGreatDoorLaidMet
import Derived.Test.YtkidamemnogojaaGreatDoorCards
namespace Go.Proofs.YtkidamemnogojaaGreatDoor
theorem storeKnown_wfT : Rows.storeKnownRow.wfByText (OpenSpec.ofChange Rows.storeKnownSpec) = true := by kernel_rfl
theorem storeKnown_main : Tryz.pinned.checked.prog.mainIs = some (Rows.storeKnownCard.stood.harness.1, Rows.storeKnownCard.stood.harness.2.toList) := by kernel_rfl
theorem storeKnown_w1 (os : Os) : ((laidWorld os).forCall (fun _ _ => 0) ⟨#[], #[], []⟩).variablesRefB Tryz.prog = true := by kernel_rfl
theorem storeKnown_w2 (os : Os) : (((laidWorld os).forCall (fun _ _ => 0) ⟨#[], #[], []⟩).heap.toList.drop Tryz.prog.globals.size).take ((begin Tryz.prog (fun _ _ => 0) default).world.heap.size - Tryz.prog.globals.size) =
      (begin Tryz.prog (fun _ _ => 0) default).world.heap.toList.drop Tryz.prog.globals.size := by kernel_rfl
theorem storeKnown_w3 (os : Os) : Input.okWideB Tryz.prog ((laidWorld os).forCall (fun _ _ => 0) ⟨#[], #[], []⟩) 6 ⟨#[], #[], []⟩ = true := by kernel_rfl
theorem storeKnown_w4 : (Rows.storeKnownRow.laid.filter fun x => x.2.handleName?.isSome) = [] := by kernel_rfl
theorem storeKnown_w5 (os : Os) : laidMetH Tryz.prog Rows.storeKnownRow.laid (wOf os #[]) := by
  unfold laidMetH
  rw [storeKnown_w4]
  exact laid_met1 os #[]
theorem storeKnown_w6 (os : Os) : (laidWorld os).os = os := rfl
theorem storeKnown_reads (os : Os) {H : Type} (enc : TypeId × Value → H) : DataW.whole enc Tryz.prog (wOf os #[]) Tryz.f6.params.toList Rows.storeKnownSpec.vars false (#[] : Array Value).toList 8 = some ([], [], []) := by kernel_rfl
end Go.Proofs.YtkidamemnogojaaGreatDoor
