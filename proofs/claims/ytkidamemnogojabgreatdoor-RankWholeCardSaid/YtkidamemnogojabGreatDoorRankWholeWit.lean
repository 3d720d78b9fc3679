/-
  The witness of roster/rosterlaw22.RankWhole: its closed facts.
-/
import Derived.Test.YtkidamemnogojabGreatDoorLaidMet
import Derived.Test.YtkidamemnogojabGreatDoorCards
namespace Go.Proofs.YtkidamemnogojabGreatDoor
theorem rankWhole_wfT : Rows.rankWholeRow.wfByText (OpenSpec.ofChange Rows.rankWholeSpec) = true := by kernel_rfl
theorem rankWhole_main : Tryz.pinned.checked.prog.mainIs = some (Rows.rankWholeCard.stood.harness.1, Rows.rankWholeCard.stood.harness.2.toList) := by kernel_rfl
theorem rankWhole_w1 (os : Os) : ((laidWorld os).forCall (fun _ _ => 0) ⟨#[], #[.slice none 0 0, .slice none 0 0], []⟩).variablesRefB Tryz.prog = true := by kernel_rfl
theorem rankWhole_w2 (os : Os) : (((laidWorld os).forCall (fun _ _ => 0) ⟨#[], #[.slice none 0 0, .slice none 0 0], []⟩).heap.toList.drop Tryz.prog.globals.size).take ((begin Tryz.prog (fun _ _ => 0) default).world.heap.size - Tryz.prog.globals.size) =
      (begin Tryz.prog (fun _ _ => 0) default).world.heap.toList.drop Tryz.prog.globals.size := by kernel_rfl
theorem rankWhole_w3 (os : Os) : Input.okWideB Tryz.prog ((laidWorld os).forCall (fun _ _ => 0) ⟨#[], #[.slice none 0 0, .slice none 0 0], []⟩) 4 ⟨#[], #[.slice none 0 0, .slice none 0 0], []⟩ = true := by kernel_rfl
theorem rankWhole_w4 : (Rows.rankWholeRow.laid.filter fun x => x.2.handleName?.isSome) = [] := by kernel_rfl
theorem rankWhole_w5 (os : Os) : laidMetH Tryz.prog Rows.rankWholeRow.laid (wOf os #[.slice none 0 0, .slice none 0 0]) := by
  unfold laidMetH
  rw [rankWhole_w4]
  exact laid_met0 os #[.slice none 0 0, .slice none 0 0]
theorem rankWhole_w6 (os : Os) : (laidWorld os).os = os := rfl
theorem rankWhole_reads (os : Os) {H : Type} (enc : TypeId × Value → H) : DataW.whole enc Tryz.prog (wOf os #[.slice none 0 0, .slice none 0 0]) Tryz.f4.params.toList Rows.rankWholeSpec.vars false (#[.slice none 0 0, .slice none 0 0] : Array Value).toList 8 = some ([.nil, .nil], [], []) := by kernel_rfl
end Go.Proofs.YtkidamemnogojabGreatDoor
