/-
  The closed function that each statement of layer 8 calls, as one that is known to answer true.
-/
import Derived.Test.YtiiadibbkijnhaaGreatDoorWorksP
namespace Go.Proofs.YtiiadibbkijnhaaGreatDoor
open Go.Ex
noncomputable def ext2 (f : FuncId) : Option ExtK := bif Nat.beq f 11 then some (.yes 11 varsOf0) else ext1 f
theorem vars_lt0 : ∀ p ∈ varsOf0, p.1 < 11 := by
  unfold varsOf0
  intro p hp
  simp only [List.mem_cons, List.not_mem_nil, or_false] at hp
  rcases hp with rfl | rfl | rfl <;> decide
theorem ext2Ok : XOk Tryz.prog ext2 := by
  intro g k h
  unfold ext2 at h
  rcases cond_eq_some h with ⟨h1, h2⟩ | ⟨_, h2⟩
  · simp only [Option.some.injEq] at h2
    subst h2
    rw [beq_iff.1 h1]
    exact known_yes Tryz.func11 rfl vars_lt0 (fun σ w hr hf => works_true vars_lt0 hr hf)
  · exact ext1Ok g k h2
end Go.Proofs.YtiiadibbkijnhaaGreatDoor
