/-
  The program of these five laws, as the abstract machine takes it: what it knows without bodies, the two tables that a closed call reads.
-/
import Derived.Test.YtdocondniobcdaaGreatDoorRows
import Derived.Test.YtdocondniobcdaaGreatDoorExLaid
namespace Go.Proofs.YtdocondniobcdaaGreatDoor
open Go.Ex

def ext (f : FuncId) : Option ExtK := bif Nat.beq f 273 then some .count else bif Nat.beq f 326 then some .indexByte else none

theorem extOk : XOk Tryz.prog ext := XOk.of fun g k h => by
  unfold ext at h
  rcases Go.Ex.cond_eq_some h with ⟨h1, h2⟩ | ⟨_, h2⟩
  · cases h2
    rw [Go.Ex.beq_iff.1 h1]
    exact ⟨Tryz.f273, _, Tryz.func273, rfl, by kernel_rfl, by kernel_rfl, by kernel_rfl, by kernel_rfl⟩
  · rcases Go.Ex.cond_eq_some h2 with ⟨h1, h3⟩ | ⟨_, h3⟩
    · cases h3
      rw [Go.Ex.beq_iff.1 h1]
      exact ⟨Tryz.f326, _, Tryz.func326, rfl, by kernel_rfl, by kernel_rfl, by kernel_rfl, by kernel_rfl⟩
    · cases h3

theorem noNumAll : (Tryz.prog.funcs.toList.all fun fn => fn.body.isNone || !(fn.name == "runtime.NumGoroutine")) = true := by kernel_rfl
theorem noNum : NoNum Tryz.prog := NoNum.of noNumAll
theorem mixed : Tryz.prog.follows .mixedOrders = true := by kernel_rfl

noncomputable def cellsTable : List AV := listOf (flatD Tryz.prog 4 171 Rows.laid_roster_schema_table)
noncomputable def cellsSorts : List AV := listOf (flatD Tryz.prog 4 237 Rows.laid_roster_match_sorts)
noncomputable def varsOf : List (Nat × List AV) := [(0, cellsTable), (1, cellsSorts)]

def HeldAs (w : World) (g : Nat) (l : List AV) : Prop := g < 10 ∧ ∃ (c : Array Value) (tt : TypeId), w.heap[g]? = some (.cells c tt (0, 0)) ∧ RL (sg0 Tryz.prog w 10) l c.toList ∧ ∀ u, u ∈ c.toList → oneC u = true

theorem table_held {laid : List (String × DataW Unit)} (h1 : (laid.filter fun x => x.2.handleName?.isSome) = []) (h2 : laid.lookup "roster/schema.table" = some Rows.laid_roster_schema_table) {w : World} (h : laidMetH Tryz.prog laid w) : HeldAs w 0 cellsTable :=
  var_ok (P := Tryz.prog) (n := 4) (t := 171) (g := 0) (G := 10) (d := Rows.laid_roster_schema_table) h h1 h2 (by kernel_rfl) (by kernel_rfl) (by kernel_rfl) (by kernel_rfl) (by decide)
theorem sorts_held {laid : List (String × DataW Unit)} (h1 : (laid.filter fun x => x.2.handleName?.isSome) = []) (h2 : laid.lookup "roster/match.sorts" = some Rows.laid_roster_match_sorts) {w : World} (h : laidMetH Tryz.prog laid w) : HeldAs w 1 cellsSorts :=
  var_ok (P := Tryz.prog) (n := 4) (t := 237) (g := 1) (G := 10) (d := Rows.laid_roster_match_sorts) h h1 h2 (by kernel_rfl) (by kernel_rfl) (by kernel_rfl) (by kernel_rfl) (by decide)

theorem all2 {Q : Nat → List AV → Prop} {a c : Nat} {b d : List AV} (h1 : Q a b) (h2 : Q c d) : ∀ p ∈ [(a, b), (c, d)], Q p.1 p.2 := by
  intro p hp
  rcases List.mem_cons.1 hp with e | hp
  · rw [e]; exact h1
  · rw [List.mem_singleton.1 hp]; exact h2

theorem noHandles : (Rows.rankNamesRow.laid.filter fun x => x.2.handleName?.isSome) = [] := by kernel_rfl

/-- What a row's list gives. -/
theorem vars_ok {laid : List (String × DataW Unit)} (h1 : (laid.filter fun x => x.2.handleName?.isSome) = []) (h2 : laid.lookup "roster/schema.table" = some Rows.laid_roster_schema_table) (h3 : laid.lookup "roster/match.sorts" = some Rows.laid_roster_match_sorts)
    {w : World} (h : laidMetH Tryz.prog laid w) : ∀ p ∈ varsOf, HeldAs w p.1 p.2 := by
  unfold varsOf
  exact all2 (Q := HeldAs w) (table_held h1 h2 h) (sorts_held h1 h3 h)
end Go.Proofs.YtdocondniobcdaaGreatDoor
