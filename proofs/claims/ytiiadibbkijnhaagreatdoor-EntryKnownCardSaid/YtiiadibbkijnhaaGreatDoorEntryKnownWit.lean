/-
  The witness of roster/rosterlaw08.EntryKnown: its closed facts.
-/
import Derived.Test.YtiiadibbkijnhaaGreatDoorLaidMet
import Derived.Test.YtiiadibbkijnhaaGreatDoorCards
namespace Go.Proofs.YtiiadibbkijnhaaGreatDoor
theorem entryKnown_wfT : Rows.entryKnownRow.wfByText (OpenSpec.ofChange Rows.entryKnownSpec) = true := by kernel_rfl
theorem entryKnown_main : Tryz.pinned.checked.prog.mainIs = some (Rows.entryKnownCard.stood.harness.1, Rows.entryKnownCard.stood.harness.2.toList) := by kernel_rfl
theorem entryKnown_w1 (os : Os) : ((laidWorld os).forCall (fun _ _ => 0) ⟨#[], #[], []⟩).variablesRefB Tryz.prog = true := by kernel_rfl
theorem entryKnown_w2 (os : Os) : (((laidWorld os).forCall (fun _ _ => 0) ⟨#[], #[], []⟩).heap.toList.drop Tryz.prog.globals.size).take ((begin Tryz.prog (fun _ _ => 0) default).world.heap.size - Tryz.prog.globals.size) =
      (begin Tryz.prog (fun _ _ => 0) default).world.heap.toList.drop Tryz.prog.globals.size := by kernel_rfl
theorem entryKnown_w3 (os : Os) : Input.okWideB Tryz.prog ((laidWorld os).forCall (fun _ _ => 0) ⟨#[], #[], []⟩) 4 ⟨#[], #[], []⟩ = true := by kernel_rfl
theorem entryKnown_w4 : (Rows.entryKnownRow.laid.filter fun x => x.2.handleName?.isSome) = [] := by kernel_rfl
theorem entryKnown_w5 (os : Os) : laidMetH Tryz.prog Rows.entryKnownRow.laid (wOf os #[]) := by
  unfold laidMetH
  rw [entryKnown_w4]
  exact laid_met0 os #[]
theorem entryKnown_w6 (os : Os) : (laidWorld os).os = os := laidWorld_os os
theorem entryKnown_reads (os : Os) {H : Type} (enc : TypeId × Value → H) : DataW.whole enc Tryz.prog (wOf os #[]) Tryz.f4.params.toList Rows.entryKnownSpec.vars false (#[] : Array Value).toList 8 = some ([], [], []) := by kernel_rfl
end Go.Proofs.YtiiadibbkijnhaaGreatDoor
