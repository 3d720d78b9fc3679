/-
  The witness of roster/rosterlaw08.EntrySame: its closed facts.
-/
import Derived.Test.YtiiadibbkijnhaaGreatDoorLaidMet
import Derived.Test.YtiiadibbkijnhaaGreatDoorCards
namespace Go.Proofs.YtiiadibbkijnhaaGreatDoor
theorem entrySame_wfT : Rows.entrySameRow.wfByText (OpenSpec.ofChange Rows.entrySameSpec) = true := by kernel_rfl
theorem entrySame_main : Tryz.pinned.checked.prog.mainIs = some (Rows.entrySameCard.stood.harness.1, Rows.entrySameCard.stood.harness.2.toList) := by kernel_rfl
theorem entrySame_w1 (os : Os) : ((laidWorld os).forCall (fun _ _ => 0) ⟨#[], #[.agg #[.slice none 0 0], .agg #[.slice none 0 0]], []⟩).variablesRefB Tryz.prog = true := by kernel_rfl
theorem entrySame_w2 (os : Os) : (((laidWorld os).forCall (fun _ _ => 0) ⟨#[], #[.agg #[.slice none 0 0], .agg #[.slice none 0 0]], []⟩).heap.toList.drop Tryz.prog.globals.size).take ((begin Tryz.prog (fun _ _ => 0) default).world.heap.size - Tryz.prog.globals.size) =
      (begin Tryz.prog (fun _ _ => 0) default).world.heap.toList.drop Tryz.prog.globals.size := by kernel_rfl
theorem entrySame_w3 (os : Os) : Input.okWideB Tryz.prog ((laidWorld os).forCall (fun _ _ => 0) ⟨#[], #[.agg #[.slice none 0 0], .agg #[.slice none 0 0]], []⟩) 5 ⟨#[], #[.agg #[.slice none 0 0], .agg #[.slice none 0 0]], []⟩ = true := by kernel_rfl
theorem entrySame_w4 : (Rows.entrySameRow.laid.filter fun x => x.2.handleName?.isSome) = [] := by kernel_rfl
theorem entrySame_w5 (os : Os) : laidMetH Tryz.prog Rows.entrySameRow.laid (wOf os #[.agg #[.slice none 0 0], .agg #[.slice none 0 0]]) := by
  unfold laidMetH
  rw [entrySame_w4]
  exact laid_met0 os #[.agg #[.slice none 0 0], .agg #[.slice none 0 0]]
theorem entrySame_w6 (os : Os) : (laidWorld os).os = os := laidWorld_os os
theorem entrySame_reads (os : Os) {H : Type} (enc : TypeId × Value → H) : DataW.whole enc Tryz.prog (wOf os #[.agg #[.slice none 0 0], .agg #[.slice none 0 0]]) Tryz.f5.params.toList Rows.entrySameSpec.vars false (#[.agg #[.slice none 0 0], .agg #[.slice none 0 0]] : Array Value).toList 8 = some ([.agg [.nil], .agg [.nil]], [], []) := by kernel_rfl
end Go.Proofs.YtiiadibbkijnhaaGreatDoor
