/-
  The program of this seat, as the abstract machine takes it: what it knows without bodies, the tables that a closed call reads.
-/
import Derived.Test.YtdkfmckbeagenaaGreatDoorRows
import Derived.Test.YtdkfmckbeagenaaGreatDoorExLaid
import Derived.Test.YtdkfmckbeagenaaGreatDoorExSeg
namespace Go.Proofs.YtdkfmckbeagenaaGreatDoor
open Go.Ex

def ext (f : FuncId) : Option ExtK := bif Nat.beq f 161 then some .count else bif Nat.beq f 188 then some .indexByte else bif Nat.beq f 133 then some .compare else bif Nat.beq f 144 then some .same else bif Nat.beq f 145 then some (.makeNoZero 5) else none
theorem extOk : XOk Tryz.prog ext := XOk.of fun g k h => by
 unfold ext at h
 rcases Go.Ex.cond_eq_some h with ⟨h1, h2⟩ | ⟨_, h2⟩ <;> clear h
 ·cases h2
  rw [Go.Ex.beq_iff.1 h1]
  exact .inl ⟨Tryz.f161, _, Tryz.func161, rfl, by kernel_rfl, by kernel_rfl, by kernel_rfl, by kernel_rfl⟩
 ·have h := h2
  clear h2
  rcases Go.Ex.cond_eq_some h with ⟨h1, h2⟩ | ⟨_, h2⟩ <;> clear h
  ·cases h2
   rw [Go.Ex.beq_iff.1 h1]
   exact .inl ⟨Tryz.f188, _, Tryz.func188, rfl, by kernel_rfl, by kernel_rfl, by kernel_rfl, by kernel_rfl⟩
  ·have h := h2
   clear h2
   rcases Go.Ex.cond_eq_some h with ⟨h1, h2⟩ | ⟨_, h2⟩ <;> clear h
   ·cases h2
    rw [Go.Ex.beq_iff.1 h1]
    exact .inl ⟨Tryz.f133, _, Tryz.func133, rfl, by kernel_rfl, by kernel_rfl, by kernel_rfl, by kernel_rfl⟩
   ·have h := h2
    clear h2
    rcases Go.Ex.cond_eq_some h with ⟨h1, h2⟩ | ⟨_, h2⟩ <;> clear h
    ·cases h2
     rw [Go.Ex.beq_iff.1 h1]
     exact .inl ⟨Tryz.f144, _, Tryz.func144, rfl, by kernel_rfl, by kernel_rfl, by kernel_rfl, by kernel_rfl⟩
    ·have h := h2
     clear h2
     rcases Go.Ex.cond_eq_some h with ⟨h1, h2⟩ | ⟨_, h2⟩ <;> clear h
     ·cases h2
      rw [Go.Ex.beq_iff.1 h1]
      exact .inr (known_makeNoZero (ps := #[3]) (t := 128) Tryz.func145 (by kernel_rfl) (by kernel_rfl) (by kernel_rfl) (by kernel_rfl) (by kernel_rfl))
     ·have h := h2
      clear h2
      cases h
theorem noNumAll : (Tryz.prog.funcs.toList.all fun fn => fn.body.isNone || !(fn.name == "runtime.NumGoroutine")) = true := by kernel_rfl
theorem noNum : NoNum Tryz.prog := NoNum.of noNumAll
theorem mixed : Tryz.prog.follows .mixedOrders = true := by kernel_rfl
noncomputable def cells0 : List AV := listOf (flatD Tryz.prog 4 151 Rows.laid_roster_schema_table)
noncomputable def varsOf0 : List (Nat × List AV) := [(0, cells0)]
def HeldAs (w : World) (g : Nat) (l : List AV) : Prop := g < 12 ∧ ∃ (c : Array Value) (tt : TypeId), w.heap[g]? = some (.cells c tt (0, 0)) ∧ RL (sg0 Tryz.prog w 12) l c.toList ∧ ∀ u, u ∈ c.toList → oneC u = true
theorem held0 {laid : List (String × DataW Unit)} (h1 : (laid.filter fun x => x.2.handleName?.isSome) = []) (h2 : laid.lookup "roster/schema.table" = some Rows.laid_roster_schema_table) {w : World} (h : laidMetH Tryz.prog laid w) : HeldAs w 0 cells0 :=
 var_ok (P := Tryz.prog) (n := 4) (t := 151) (g := 0) (G := 12) (d := Rows.laid_roster_schema_table) h h1 h2 (by kernel_rfl) (by kernel_rfl) (by kernel_rfl) (by kernel_rfl) (by decide)
theorem allN {Q : Nat → List AV → Prop} : ∀ p ∈ ([] : List (Nat × List AV)), Q p.1 p.2 := fun _ h => by cases h
theorem allC {Q : Nat → List AV → Prop} {a : Nat} {b : List AV} {l : List (Nat × List AV)} (h1 : Q a b) (h2 : ∀ p ∈ l, Q p.1 p.2) : ∀ p ∈ (a, b) :: l, Q p.1 p.2 := by
 intro p hp
 rcases List.mem_cons.1 hp with e | hp
 ·rw [e]; exact h1
 ·exact h2 p hp
theorem vars_ok0 {laid : List (String × DataW Unit)} (h0 : (laid.filter fun x => x.2.handleName?.isSome) = []) (h1 : laid.lookup "roster/schema.table" = some Rows.laid_roster_schema_table)
  {w : World} (h : laidMetH Tryz.prog laid w) : ∀ p ∈ varsOf0, HeldAs w p.1 p.2 := by
 unfold varsOf0
 exact allC (Q := HeldAs w) (held0 h0 h1 h) (allN)
end Go.Proofs.YtdkfmckbeagenaaGreatDoor
