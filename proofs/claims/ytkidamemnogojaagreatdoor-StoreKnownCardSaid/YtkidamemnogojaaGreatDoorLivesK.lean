/-
  The closed function that each statement of layer 15 calls first, as one that is known to answer true.
-/
import Derived.Test.YtkidamemnogojaaGreatDoorLivesP
namespace Go.Proofs.YtkidamemnogojaaGreatDoor
open Go.Ex
noncomputable def ext4 (f : FuncId) : Option ExtK := bif Nat.beq f 29 then some (.yes 11 varsOf1) else ext3 f
theorem vars_lt1 : ∀ p ∈ varsOf1, p.1 < 11 := by
  unfold varsOf1
  intro p hp
  simp only [List.mem_cons, List.not_mem_nil, or_false] at hp
  rcases hp with rfl | rfl | rfl <;> decide
theorem ext4Ok : XOk Tryz.prog ext4 := by
  intro g k h
  unfold ext4 at h
  rcases cond_eq_some h with ⟨h1, h2⟩ | ⟨_, h2⟩
  · simp only [Option.some.injEq] at h2
    subst h2
    rw [beq_iff.1 h1]
    exact known_yes Tryz.func29 rfl vars_lt1 (fun σ w hr hf => lives_true vars_lt1 hr hf)
  · exact ext3Ok g k h2
end Go.Proofs.YtkidamemnogojaaGreatDoor
