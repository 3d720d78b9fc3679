/-
  The witness of roster/rosterlaw17.CostNil: its closed facts.
-/
import Derived.Test.YtjclahnbohdcpaaGreatDoorLaidMet
import Derived.Test.YtjclahnbohdcpaaGreatDoorCards
namespace Go.Proofs.YtjclahnbohdcpaaGreatDoor
theorem costNil_wfT : Rows.costNilRow.wfByText (OpenSpec.ofChange Rows.costNilSpec) = true := by kernel_rfl
theorem costNil_main : Tryz.pinned.checked.prog.mainIs = some (Rows.costNilCard.stood.harness.1, Rows.costNilCard.stood.harness.2.toList) := by kernel_rfl
theorem costNil_w1 (os : Os) : ((laidWorld0 os).forCall (fun _ _ => 0) ⟨#[], #[.agg #[.int .i8 0, .slice none 0 0, .string ⟨#[]⟩, .string ⟨#[]⟩, .string ⟨#[]⟩, .slice none 0 0, .string ⟨#[]⟩, .string ⟨#[]⟩, .bool false], .agg #[.int .u64 0, .bool false, .slice none 0 0, .float .f64 0, .bool false, .bool false]], []⟩).variablesRefB Tryz.prog = true := by kernel_rfl
theorem costNil_w2 (os : Os) : (((laidWorld0 os).forCall (fun _ _ => 0) ⟨#[], #[.agg #[.int .i8 0, .slice none 0 0, .string ⟨#[]⟩, .string ⟨#[]⟩, .string ⟨#[]⟩, .slice none 0 0, .string ⟨#[]⟩, .string ⟨#[]⟩, .bool false], .agg #[.int .u64 0, .bool false, .slice none 0 0, .float .f64 0, .bool false, .bool false]], []⟩).heap.toList.drop Tryz.prog.globals.size).take ((begin Tryz.prog (fun _ _ => 0) default).world.heap.size - Tryz.prog.globals.size) =
      (begin Tryz.prog (fun _ _ => 0) default).world.heap.toList.drop Tryz.prog.globals.size := by kernel_rfl
theorem costNil_w3 (os : Os) : Input.okWideB Tryz.prog ((laidWorld0 os).forCall (fun _ _ => 0) ⟨#[], #[.agg #[.int .i8 0, .slice none 0 0, .string ⟨#[]⟩, .string ⟨#[]⟩, .string ⟨#[]⟩, .slice none 0 0, .string ⟨#[]⟩, .string ⟨#[]⟩, .bool false], .agg #[.int .u64 0, .bool false, .slice none 0 0, .float .f64 0, .bool false, .bool false]], []⟩) 3 ⟨#[], #[.agg #[.int .i8 0, .slice none 0 0, .string ⟨#[]⟩, .string ⟨#[]⟩, .string ⟨#[]⟩, .slice none 0 0, .string ⟨#[]⟩, .string ⟨#[]⟩, .bool false], .agg #[.int .u64 0, .bool false, .slice none 0 0, .float .f64 0, .bool false, .bool false]], []⟩ = true := by kernel_rfl
theorem costNil_w4 : (Rows.costNilRow.laid.filter fun x => x.2.handleName?.isSome) = [] := by kernel_rfl
theorem costNil_w5 (os : Os) : laidMetH Tryz.prog Rows.costNilRow.laid (wOf0 os #[.agg #[.int .i8 0, .slice none 0 0, .string ⟨#[]⟩, .string ⟨#[]⟩, .string ⟨#[]⟩, .slice none 0 0, .string ⟨#[]⟩, .string ⟨#[]⟩, .bool false], .agg #[.int .u64 0, .bool false, .slice none 0 0, .float .f64 0, .bool false, .bool false]]) := by
  unfold laidMetH
  rw [costNil_w4]
  exact laid_met0 os #[.agg #[.int .i8 0, .slice none 0 0, .string ⟨#[]⟩, .string ⟨#[]⟩, .string ⟨#[]⟩, .slice none 0 0, .string ⟨#[]⟩, .string ⟨#[]⟩, .bool false], .agg #[.int .u64 0, .bool false, .slice none 0 0, .float .f64 0, .bool false, .bool false]]
theorem costNil_w6 (os : Os) : (laidWorld0 os).os = os := laidWorld0_os os
theorem costNil_reads (os : Os) {H : Type} (enc : TypeId × Value → H) : DataW.whole enc Tryz.prog (wOf0 os #[.agg #[.int .i8 0, .slice none 0 0, .string ⟨#[]⟩, .string ⟨#[]⟩, .string ⟨#[]⟩, .slice none 0 0, .string ⟨#[]⟩, .string ⟨#[]⟩, .bool false], .agg #[.int .u64 0, .bool false, .slice none 0 0, .float .f64 0, .bool false, .bool false]]) Tryz.f3.params.toList Rows.costNilSpec.vars false (#[.agg #[.int .i8 0, .slice none 0 0, .string ⟨#[]⟩, .string ⟨#[]⟩, .string ⟨#[]⟩, .slice none 0 0, .string ⟨#[]⟩, .string ⟨#[]⟩, .bool false], .agg #[.int .u64 0, .bool false, .slice none 0 0, .float .f64 0, .bool false, .bool false]] : Array Value).toList 8 = some ([.agg [.lit (.int .i8 0), .nil, .lit (.string []), .lit (.string []), .lit (.string []), .nil, .lit (.string []), .lit (.string []), .lit (.bool false)], .agg [.lit (.int .u64 0), .lit (.bool false), .nil, .lit (.float .f64 0), .lit (.bool false), .lit (.bool false)]], [], []) := by kernel_rfl
end Go.Proofs.YtjclahnbohdcpaaGreatDoor
