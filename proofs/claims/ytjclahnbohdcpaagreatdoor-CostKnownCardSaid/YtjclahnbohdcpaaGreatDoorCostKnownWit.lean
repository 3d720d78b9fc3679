/-
  The witness of roster/rosterlaw17.CostKnown: its closed facts.
-/
import Derived.Test.YtjclahnbohdcpaaGreatDoorLaidMet
import Derived.Test.YtjclahnbohdcpaaGreatDoorCards
namespace Go.Proofs.YtjclahnbohdcpaaGreatDoor
theorem costKnown_wfT : Rows.costKnownRow.wfByText (OpenSpec.ofChange Rows.costKnownSpec) = true := by kernel_rfl
theorem costKnown_main : Tryz.pinned.checked.prog.mainIs = some (Rows.costKnownCard.stood.harness.1, Rows.costKnownCard.stood.harness.2.toList) := by kernel_rfl
theorem costKnown_w1 (os : Os) : ((laidWorld0 os).forCall (fun _ _ => 0) ⟨#[], #[], []⟩).variablesRefB Tryz.prog = true := by kernel_rfl
theorem costKnown_w2 (os : Os) : (((laidWorld0 os).forCall (fun _ _ => 0) ⟨#[], #[], []⟩).heap.toList.drop Tryz.prog.globals.size).take ((begin Tryz.prog (fun _ _ => 0) default).world.heap.size - Tryz.prog.globals.size) =
      (begin Tryz.prog (fun _ _ => 0) default).world.heap.toList.drop Tryz.prog.globals.size := by kernel_rfl
theorem costKnown_w3 (os : Os) : Input.okWideB Tryz.prog ((laidWorld0 os).forCall (fun _ _ => 0) ⟨#[], #[], []⟩) 4 ⟨#[], #[], []⟩ = true := by kernel_rfl
theorem costKnown_w4 : (Rows.costKnownRow.laid.filter fun x => x.2.handleName?.isSome) = [] := by kernel_rfl
theorem costKnown_w5 (os : Os) : laidMetH Tryz.prog Rows.costKnownRow.laid (wOf0 os #[]) := by
  unfold laidMetH
  rw [costKnown_w4]
  exact laid_met0 os #[]
theorem costKnown_w6 (os : Os) : (laidWorld0 os).os = os := laidWorld0_os os
theorem costKnown_reads (os : Os) {H : Type} (enc : TypeId × Value → H) : DataW.whole enc Tryz.prog (wOf0 os #[]) Tryz.f4.params.toList Rows.costKnownSpec.vars false (#[] : Array Value).toList 8 = some ([], [], []) := by kernel_rfl
end Go.Proofs.YtjclahnbohdcpaaGreatDoor
