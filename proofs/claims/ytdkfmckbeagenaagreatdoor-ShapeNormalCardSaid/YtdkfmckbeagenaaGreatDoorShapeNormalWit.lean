/-
  The witness of roster/rosterlaw16.ShapeNormal: its closed facts.
-/
import Derived.Test.YtdkfmckbeagenaaGreatDoorQR1
import Derived.Test.YtdkfmckbeagenaaGreatDoorCards
namespace Go.Proofs.YtdkfmckbeagenaaGreatDoor
theorem shapeNormal_wfT : Rows.shapeNormalRow.wfByText (OpenSpec.ofChange Rows.shapeNormalSpec) = true := by kernel_rfl
theorem shapeNormal_main : Tryz.pinned.checked.prog.mainIs = some (Rows.shapeNormalCard.stood.harness.1, Rows.shapeNormalCard.stood.harness.2.toList) := by kernel_rfl
theorem shapeNormal_w1 (os : Os) : ((laidWorld0 os).forCall (fun _ _ => 0) ⟨#[], #[.agg #[.int .i8 0, .slice none 0 0, .string ⟨#[]⟩, .string ⟨#[]⟩, .string ⟨#[]⟩, .slice none 0 0, .string ⟨#[]⟩, .string ⟨#[]⟩, .bool false]], []⟩).variablesRefB Tryz.prog = true := by kernel_rfl
theorem shapeNormal_w2 (os : Os) : (((laidWorld0 os).forCall (fun _ _ => 0) ⟨#[], #[.agg #[.int .i8 0, .slice none 0 0, .string ⟨#[]⟩, .string ⟨#[]⟩, .string ⟨#[]⟩, .slice none 0 0, .string ⟨#[]⟩, .string ⟨#[]⟩, .bool false]], []⟩).heap.toList.drop Tryz.prog.globals.size).take ((begin Tryz.prog (fun _ _ => 0) default).world.heap.size - Tryz.prog.globals.size) =
   (begin Tryz.prog (fun _ _ => 0) default).world.heap.toList.drop Tryz.prog.globals.size := by kernel_rfl
theorem shapeNormal_w3 (os : Os) : Input.okWideB Tryz.prog ((laidWorld0 os).forCall (fun _ _ => 0) ⟨#[], #[.agg #[.int .i8 0, .slice none 0 0, .string ⟨#[]⟩, .string ⟨#[]⟩, .string ⟨#[]⟩, .slice none 0 0, .string ⟨#[]⟩, .string ⟨#[]⟩, .bool false]], []⟩) 3 ⟨#[], #[.agg #[.int .i8 0, .slice none 0 0, .string ⟨#[]⟩, .string ⟨#[]⟩, .string ⟨#[]⟩, .slice none 0 0, .string ⟨#[]⟩, .string ⟨#[]⟩, .bool false]], []⟩ = true := by kernel_rfl
theorem shapeNormal_w4 : (Rows.shapeNormalRow.laid.filter fun x => x.2.handleName?.isSome) = [] := by kernel_rfl
theorem shapeNormal_w5 (os : Os) : laidMetH Tryz.prog Rows.shapeNormalRow.laid (wOf0 os #[.agg #[.int .i8 0, .slice none 0 0, .string ⟨#[]⟩, .string ⟨#[]⟩, .string ⟨#[]⟩, .slice none 0 0, .string ⟨#[]⟩, .string ⟨#[]⟩, .bool false]]) := by
 unfold laidMetH
 rw [shapeNormal_w4]
 exact laid_met0 os #[.agg #[.int .i8 0, .slice none 0 0, .string ⟨#[]⟩, .string ⟨#[]⟩, .string ⟨#[]⟩, .slice none 0 0, .string ⟨#[]⟩, .string ⟨#[]⟩, .bool false]]
theorem shapeNormal_w6 (os : Os) : (laidWorld0 os).os = os := laidWorld0_os os
theorem shapeNormal_reads (os : Os) {H : Type} (enc : TypeId × Value → H) : DataW.whole enc Tryz.prog (wOf0 os #[.agg #[.int .i8 0, .slice none 0 0, .string ⟨#[]⟩, .string ⟨#[]⟩, .string ⟨#[]⟩, .slice none 0 0, .string ⟨#[]⟩, .string ⟨#[]⟩, .bool false]]) Tryz.f3.params.toList Rows.shapeNormalSpec.vars false (#[.agg #[.int .i8 0, .slice none 0 0, .string ⟨#[]⟩, .string ⟨#[]⟩, .string ⟨#[]⟩, .slice none 0 0, .string ⟨#[]⟩, .string ⟨#[]⟩, .bool false]] : Array Value).toList 8 = some ([.agg [.lit (.int .i8 0), .nil, .lit (.string []), .lit (.string []), .lit (.string []), .nil, .lit (.string []), .lit (.string []), .lit (.bool false)]], [], []) := by kernel_rfl
end Go.Proofs.YtdkfmckbeagenaaGreatDoor
