/-
  The witness of roster/rosterlaw22.RankPages: its closed facts.
-/
import Derived.Test.YtkidamemnogojabGreatDoorLaidMet
import Derived.Test.YtkidamemnogojabGreatDoorCards
namespace Go.Proofs.YtkidamemnogojabGreatDoor
theorem rankPages_wfT : Rows.rankPagesRow.wfByText (OpenSpec.ofChange Rows.rankPagesSpec) = true := by kernel_rfl
theorem rankPages_main : Tryz.pinned.checked.prog.mainIs = some (Rows.rankPagesCard.stood.harness.1, Rows.rankPagesCard.stood.harness.2.toList) := by kernel_rfl
theorem rankPages_w1 (os : Os) : ((laidWorld os).forCall (fun _ _ => 0) ⟨#[], #[.slice none 0 0, .string ⟨#[]⟩, .int .i64 0], []⟩).variablesRefB Tryz.prog = true := by kernel_rfl
theorem rankPages_w2 (os : Os) : (((laidWorld os).forCall (fun _ _ => 0) ⟨#[], #[.slice none 0 0, .string ⟨#[]⟩, .int .i64 0], []⟩).heap.toList.drop Tryz.prog.globals.size).take ((begin Tryz.prog (fun _ _ => 0) default).world.heap.size - Tryz.prog.globals.size) =
      (begin Tryz.prog (fun _ _ => 0) default).world.heap.toList.drop Tryz.prog.globals.size := by kernel_rfl
theorem rankPages_w3 (os : Os) : Input.okWideB Tryz.prog ((laidWorld os).forCall (fun _ _ => 0) ⟨#[], #[.slice none 0 0, .string ⟨#[]⟩, .int .i64 0], []⟩) 3 ⟨#[], #[.slice none 0 0, .string ⟨#[]⟩, .int .i64 0], []⟩ = true := by kernel_rfl
theorem rankPages_w4 : (Rows.rankPagesRow.laid.filter fun x => x.2.handleName?.isSome) = [] := by kernel_rfl
theorem rankPages_w5 (os : Os) : laidMetH Tryz.prog Rows.rankPagesRow.laid (wOf os #[.slice none 0 0, .string ⟨#[]⟩, .int .i64 0]) := by
  unfold laidMetH
  rw [rankPages_w4]
  exact laid_met0 os #[.slice none 0 0, .string ⟨#[]⟩, .int .i64 0]
theorem rankPages_w6 (os : Os) : (laidWorld os).os = os := rfl
theorem rankPages_reads (os : Os) {H : Type} (enc : TypeId × Value → H) : DataW.whole enc Tryz.prog (wOf os #[.slice none 0 0, .string ⟨#[]⟩, .int .i64 0]) Tryz.f3.params.toList Rows.rankPagesSpec.vars false (#[.slice none 0 0, .string ⟨#[]⟩, .int .i64 0] : Array Value).toList 8 = some ([.nil, .lit (.string []), .lit (.int .i64 0)], [], []) := by kernel_rfl
end Go.Proofs.YtkidamemnogojabGreatDoor
