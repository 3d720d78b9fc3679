/-
  slices.Insert of one text ahead of another one, as a function that the abstract machine knows.
-/
import Derived.Test.YtkidamemnogojaaGreatDoorLivesK
import Derived.Test.YtkidamemnogojaaGreatDoorExInsert
import Derived.Test.YtkidamemnogojaaGreatDoorInsLay
namespace Go.Proofs.YtkidamemnogojaaGreatDoor
open Go.Ex
theorem insOk : KnownOk Tryz.prog 204 .insert := known_insert (ρ := nm22_ren) nm22 Tryz.func204 rfl
noncomputable def ext5 (f : FuncId) : Option ExtK := bif Nat.beq f 204 then some .insert else ext4 f
theorem ext5Ok : XOk Tryz.prog ext5 := by
  intro g k h
  unfold ext5 at h
  rcases cond_eq_some h with ⟨h1, h2⟩ | ⟨_, h2⟩
  · simp only [Option.some.injEq] at h2
    subst h2
    rw [beq_iff.1 h1]
    exact insOk
  · exact ext4Ok g k h2
end Go.Proofs.YtkidamemnogojaaGreatDoor
