/-
  The witness of rosterlaw22.RankNames: its closed facts.
-/
import Derived.Test.YtdocondniobcdaaGreatDoorLaidMet
namespace Go.Proofs.YtdocondniobcdaaGreatDoor
theorem names_w1 (os : Os) : ((laidWorld os).forCall (fun _ _ => 0) ⟨#[], #[], []⟩).variablesRefB Tryz.prog = true := by kernel_rfl
theorem names_w2 (os : Os) : (((laidWorld os).forCall (fun _ _ => 0) ⟨#[], #[], []⟩).heap.toList.drop Tryz.prog.globals.size).take ((begin Tryz.prog (fun _ _ => 0) default).world.heap.size - Tryz.prog.globals.size) =
      (begin Tryz.prog (fun _ _ => 0) default).world.heap.toList.drop Tryz.prog.globals.size := by kernel_rfl
theorem names_w3 (os : Os) : Input.okWideB Tryz.prog ((laidWorld os).forCall (fun _ _ => 0) ⟨#[], #[], []⟩) 5 ⟨#[], #[], []⟩ = true := by kernel_rfl
theorem names_w4 : (Rows.rankNamesRow.laid.filter fun x => x.2.handleName?.isSome) = [] := by kernel_rfl
theorem names_w5 (os : Os) : laidMetH Tryz.prog Rows.rankNamesRow.laid (wOf os #[]) := by
  unfold laidMetH
  rw [names_w4]
  exact laid_met os #[]
theorem names_w6 (os : Os) : (laidWorld os).os = os := rfl
theorem names_reads (os : Os) {H : Type} (enc : TypeId × Value → H) : DataW.whole enc Tryz.prog (wOf os #[]) Tryz.f5.params.toList Rows.rankNamesSpec.vars false (#[] : Array Value).toList 8 = some ([], [], []) := by kernel_rfl
end Go.Proofs.YtdocondniobcdaaGreatDoor
