/-
  The witness of roster/rosterlaw14.IndexKnown: its closed facts.
-/
import Derived.Test.YtkidamemnogojaaGreatDoorLaidMet
import Derived.Test.YtkidamemnogojaaGreatDoorCards
namespace Go.Proofs.YtkidamemnogojaaGreatDoor
theorem indexKnown_wfT : Rows.indexKnownRow.wfByText (OpenSpec.ofChange Rows.indexKnownSpec) = true := by kernel_rfl
theorem indexKnown_main : Tryz.pinned.checked.prog.mainIs = some (Rows.indexKnownCard.stood.harness.1, Rows.indexKnownCard.stood.harness.2.toList) := by kernel_rfl
theorem indexKnown_w1 (os : Os) : ((laidWorld os).forCall (fun _ _ => 0) ⟨#[], #[], []⟩).variablesRefB Tryz.prog = true := by kernel_rfl
theorem indexKnown_w2 (os : Os) : (((laidWorld os).forCall (fun _ _ => 0) ⟨#[], #[], []⟩).heap.toList.drop Tryz.prog.globals.size).take ((begin Tryz.prog (fun _ _ => 0) default).world.heap.size - Tryz.prog.globals.size) =
      (begin Tryz.prog (fun _ _ => 0) default).world.heap.toList.drop Tryz.prog.globals.size := by kernel_rfl
theorem indexKnown_w3 (os : Os) : Input.okWideB Tryz.prog ((laidWorld os).forCall (fun _ _ => 0) ⟨#[], #[], []⟩) 4 ⟨#[], #[], []⟩ = true := by kernel_rfl
theorem indexKnown_w4 : (Rows.indexKnownRow.laid.filter fun x => x.2.handleName?.isSome) = [] := by kernel_rfl
theorem indexKnown_w5 (os : Os) : laidMetH Tryz.prog Rows.indexKnownRow.laid (wOf os #[]) := by
  unfold laidMetH
  rw [indexKnown_w4]
  exact laid_met0 os #[]
theorem indexKnown_w6 (os : Os) : (laidWorld os).os = os := rfl
theorem indexKnown_reads (os : Os) {H : Type} (enc : TypeId × Value → H) : DataW.whole enc Tryz.prog (wOf os #[]) Tryz.f4.params.toList Rows.indexKnownSpec.vars false (#[] : Array Value).toList 8 = some ([], [], []) := by kernel_rfl
end Go.Proofs.YtkidamemnogojaaGreatDoor
