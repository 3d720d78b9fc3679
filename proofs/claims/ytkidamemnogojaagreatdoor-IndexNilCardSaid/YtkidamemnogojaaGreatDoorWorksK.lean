/-
  The closed function that each statement of this layer calls first, as one that is known to answer true.
-/
import Derived.Test.YtkidamemnogojaaGreatDoorWorksP
namespace Go.Proofs.YtkidamemnogojaaGreatDoor
open Go.Ex
noncomputable def ext2 (f : FuncId) : Option ExtK := bif Nat.beq f 13 then some (.yes 11 varsOf0) else ext f
theorem vars_lt : ∀ p ∈ varsOf0, p.1 < 11 := by
  unfold varsOf0
  intro p hp
  simp only [List.mem_cons, List.not_mem_nil, or_false] at hp
  rcases hp with rfl | rfl <;> decide
theorem ext2Ok : XOk Tryz.prog ext2 := by
  intro g k h
  unfold ext2 at h
  rcases cond_eq_some h with ⟨h1, h2⟩ | ⟨_, h2⟩
  · simp only [Option.some.injEq] at h2
    subst h2
    rw [beq_iff.1 h1]
    exact known_yes Tryz.func13 rfl vars_lt (fun σ w hr hf => works_true vars_lt hr hf)
  · exact extOk g k h2
end Go.Proofs.YtkidamemnogojaaGreatDoor
