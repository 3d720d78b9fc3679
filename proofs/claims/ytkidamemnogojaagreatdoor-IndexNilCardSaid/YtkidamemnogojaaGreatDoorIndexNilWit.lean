/-
  The witness of roster/rosterlaw14.IndexNil: its closed facts.
-/
import Derived.Test.YtkidamemnogojaaGreatDoorLaidMet
import Derived.Test.YtkidamemnogojaaGreatDoorCards
namespace Go.Proofs.YtkidamemnogojaaGreatDoor
theorem indexNil_wfT : Rows.indexNilRow.wfByText (OpenSpec.ofChange Rows.indexNilSpec) = true := by kernel_rfl
theorem indexNil_main : Tryz.pinned.checked.prog.mainIs = some (Rows.indexNilCard.stood.harness.1, Rows.indexNilCard.stood.harness.2.toList) := by kernel_rfl
theorem indexNil_w1 (os : Os) : ((laidWorld os).forCall (fun _ _ => 0) ⟨#[], #[.int .u64 0, .agg #[.slice none 0 0], .agg #[.int .i8 0, .int .i64 0, .string ⟨#[]⟩, .slice none 0 0]], []⟩).variablesRefB Tryz.prog = true := by kernel_rfl
theorem indexNil_w2 (os : Os) : (((laidWorld os).forCall (fun _ _ => 0) ⟨#[], #[.int .u64 0, .agg #[.slice none 0 0], .agg #[.int .i8 0, .int .i64 0, .string ⟨#[]⟩, .slice none 0 0]], []⟩).heap.toList.drop Tryz.prog.globals.size).take ((begin Tryz.prog (fun _ _ => 0) default).world.heap.size - Tryz.prog.globals.size) =
      (begin Tryz.prog (fun _ _ => 0) default).world.heap.toList.drop Tryz.prog.globals.size := by kernel_rfl
theorem indexNil_w3 (os : Os) : Input.okWideB Tryz.prog ((laidWorld os).forCall (fun _ _ => 0) ⟨#[], #[.int .u64 0, .agg #[.slice none 0 0], .agg #[.int .i8 0, .int .i64 0, .string ⟨#[]⟩, .slice none 0 0]], []⟩) 3 ⟨#[], #[.int .u64 0, .agg #[.slice none 0 0], .agg #[.int .i8 0, .int .i64 0, .string ⟨#[]⟩, .slice none 0 0]], []⟩ = true := by kernel_rfl
theorem indexNil_w4 : (Rows.indexNilRow.laid.filter fun x => x.2.handleName?.isSome) = [] := by kernel_rfl
theorem indexNil_w5 (os : Os) : laidMetH Tryz.prog Rows.indexNilRow.laid (wOf os #[.int .u64 0, .agg #[.slice none 0 0], .agg #[.int .i8 0, .int .i64 0, .string ⟨#[]⟩, .slice none 0 0]]) := by
  unfold laidMetH
  rw [indexNil_w4]
  exact laid_met0 os #[.int .u64 0, .agg #[.slice none 0 0], .agg #[.int .i8 0, .int .i64 0, .string ⟨#[]⟩, .slice none 0 0]]
theorem indexNil_w6 (os : Os) : (laidWorld os).os = os := rfl
theorem indexNil_reads (os : Os) {H : Type} (enc : TypeId × Value → H) : DataW.whole enc Tryz.prog (wOf os #[.int .u64 0, .agg #[.slice none 0 0], .agg #[.int .i8 0, .int .i64 0, .string ⟨#[]⟩, .slice none 0 0]]) Tryz.f3.params.toList Rows.indexNilSpec.vars false (#[.int .u64 0, .agg #[.slice none 0 0], .agg #[.int .i8 0, .int .i64 0, .string ⟨#[]⟩, .slice none 0 0]] : Array Value).toList 8 = some ([.lit (.int .u64 0), .agg [.nil], .agg [.lit (.int .i8 0), .lit (.int .i64 0), .lit (.string []), .nil]], [], []) := by kernel_rfl
end Go.Proofs.YtkidamemnogojaaGreatDoor
