/-
  The witness of roster/rosterlaw08.EntryNil: its closed facts.
-/
import Derived.Test.YtiiadibbkijnhaaGreatDoorLaidMet
import Derived.Test.YtiiadibbkijnhaaGreatDoorCards
namespace Go.Proofs.YtiiadibbkijnhaaGreatDoor
theorem entryNil_wfT : Rows.entryNilRow.wfByText (OpenSpec.ofChange Rows.entryNilSpec) = true := by kernel_rfl
theorem entryNil_main : Tryz.pinned.checked.prog.mainIs = some (Rows.entryNilCard.stood.harness.1, Rows.entryNilCard.stood.harness.2.toList) := by kernel_rfl
theorem entryNil_w1 (os : Os) : ((laidWorld os).forCall (fun _ _ => 0) ⟨#[], #[.agg #[.slice none 0 0], .slice none 0 0, .string ⟨#[]⟩], []⟩).variablesRefB Tryz.prog = true := by kernel_rfl
theorem entryNil_w2 (os : Os) : (((laidWorld os).forCall (fun _ _ => 0) ⟨#[], #[.agg #[.slice none 0 0], .slice none 0 0, .string ⟨#[]⟩], []⟩).heap.toList.drop Tryz.prog.globals.size).take ((begin Tryz.prog (fun _ _ => 0) default).world.heap.size - Tryz.prog.globals.size) =
      (begin Tryz.prog (fun _ _ => 0) default).world.heap.toList.drop Tryz.prog.globals.size := by kernel_rfl
theorem entryNil_w3 (os : Os) : Input.okWideB Tryz.prog ((laidWorld os).forCall (fun _ _ => 0) ⟨#[], #[.agg #[.slice none 0 0], .slice none 0 0, .string ⟨#[]⟩], []⟩) 3 ⟨#[], #[.agg #[.slice none 0 0], .slice none 0 0, .string ⟨#[]⟩], []⟩ = true := by kernel_rfl
theorem entryNil_w4 : (Rows.entryNilRow.laid.filter fun x => x.2.handleName?.isSome) = [] := by kernel_rfl
theorem entryNil_w5 (os : Os) : laidMetH Tryz.prog Rows.entryNilRow.laid (wOf os #[.agg #[.slice none 0 0], .slice none 0 0, .string ⟨#[]⟩]) := by
  unfold laidMetH
  rw [entryNil_w4]
  exact laid_met0 os #[.agg #[.slice none 0 0], .slice none 0 0, .string ⟨#[]⟩]
theorem entryNil_w6 (os : Os) : (laidWorld os).os = os := laidWorld_os os
theorem entryNil_reads (os : Os) {H : Type} (enc : TypeId × Value → H) : DataW.whole enc Tryz.prog (wOf os #[.agg #[.slice none 0 0], .slice none 0 0, .string ⟨#[]⟩]) Tryz.f3.params.toList Rows.entryNilSpec.vars false (#[.agg #[.slice none 0 0], .slice none 0 0, .string ⟨#[]⟩] : Array Value).toList 8 = some ([.agg [.nil], .nil, .lit (.string [])], [], []) := by kernel_rfl
end Go.Proofs.YtiiadibbkijnhaaGreatDoor
