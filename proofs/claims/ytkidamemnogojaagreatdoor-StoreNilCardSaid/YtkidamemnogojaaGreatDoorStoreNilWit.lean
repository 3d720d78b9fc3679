/-
  The witness of roster/rosterlaw15.StoreNil: its closed facts.
-/
import Derived.Test.YtkidamemnogojaaGreatDoorLaidMet
import Derived.Test.YtkidamemnogojaaGreatDoorCards
namespace Go.Proofs.YtkidamemnogojaaGreatDoor
theorem storeNil_wfT : Rows.storeNilRow.wfByText (OpenSpec.ofChange Rows.storeNilSpec) = true := by kernel_rfl
theorem storeNil_main : Tryz.pinned.checked.prog.mainIs = some (Rows.storeNilCard.stood.harness.1, Rows.storeNilCard.stood.harness.2.toList) := by kernel_rfl
theorem storeNil_w1 (os : Os) : ((laidWorld os).forCall (fun _ _ => 0) ⟨#[], #[.agg #[.int .i64 0, .int .u64 0, .slice none 0 0, .slice none 0 0, .slice none 0 0, .int .i8 0, .int .i64 0, .string ⟨#[]⟩, .slice none 0 0]], []⟩).variablesRefB Tryz.prog = true := by kernel_rfl
theorem storeNil_w2 (os : Os) : (((laidWorld os).forCall (fun _ _ => 0) ⟨#[], #[.agg #[.int .i64 0, .int .u64 0, .slice none 0 0, .slice none 0 0, .slice none 0 0, .int .i8 0, .int .i64 0, .string ⟨#[]⟩, .slice none 0 0]], []⟩).heap.toList.drop Tryz.prog.globals.size).take ((begin Tryz.prog (fun _ _ => 0) default).world.heap.size - Tryz.prog.globals.size) =
      (begin Tryz.prog (fun _ _ => 0) default).world.heap.toList.drop Tryz.prog.globals.size := by kernel_rfl
theorem storeNil_w3 (os : Os) : Input.okWideB Tryz.prog ((laidWorld os).forCall (fun _ _ => 0) ⟨#[], #[.agg #[.int .i64 0, .int .u64 0, .slice none 0 0, .slice none 0 0, .slice none 0 0, .int .i8 0, .int .i64 0, .string ⟨#[]⟩, .slice none 0 0]], []⟩) 5 ⟨#[], #[.agg #[.int .i64 0, .int .u64 0, .slice none 0 0, .slice none 0 0, .slice none 0 0, .int .i8 0, .int .i64 0, .string ⟨#[]⟩, .slice none 0 0]], []⟩ = true := by kernel_rfl
theorem storeNil_w4 : (Rows.storeNilRow.laid.filter fun x => x.2.handleName?.isSome) = [] := by kernel_rfl
theorem storeNil_w5 (os : Os) : laidMetH Tryz.prog Rows.storeNilRow.laid (wOf os #[.agg #[.int .i64 0, .int .u64 0, .slice none 0 0, .slice none 0 0, .slice none 0 0, .int .i8 0, .int .i64 0, .string ⟨#[]⟩, .slice none 0 0]]) := by
  unfold laidMetH
  rw [storeNil_w4]
  exact laid_met1 os #[.agg #[.int .i64 0, .int .u64 0, .slice none 0 0, .slice none 0 0, .slice none 0 0, .int .i8 0, .int .i64 0, .string ⟨#[]⟩, .slice none 0 0]]
theorem storeNil_w6 (os : Os) : (laidWorld os).os = os := rfl
theorem storeNil_reads (os : Os) {H : Type} (enc : TypeId × Value → H) : DataW.whole enc Tryz.prog (wOf os #[.agg #[.int .i64 0, .int .u64 0, .slice none 0 0, .slice none 0 0, .slice none 0 0, .int .i8 0, .int .i64 0, .string ⟨#[]⟩, .slice none 0 0]]) Tryz.f5.params.toList Rows.storeNilSpec.vars false (#[.agg #[.int .i64 0, .int .u64 0, .slice none 0 0, .slice none 0 0, .slice none 0 0, .int .i8 0, .int .i64 0, .string ⟨#[]⟩, .slice none 0 0]] : Array Value).toList 8 = some ([.agg [.lit (.int .i64 0), .lit (.int .u64 0), .agg [.nil], .agg [.nil], .nil, .agg [.lit (.int .i8 0), .lit (.int .i64 0), .lit (.string []), .nil]]], [], []) := by kernel_rfl
end Go.Proofs.YtkidamemnogojaaGreatDoor
