/-
  slices.Insert of one text ahead of another one, as a function that the abstract machine knows.
-/
import Derived.Test.YtiiadibbkijnhaaGreatDoorRun
import Derived.Test.YtiiadibbkijnhaaGreatDoorExInsert
import Derived.Test.YtiiadibbkijnhaaGreatDoorInsLay
namespace Go.Proofs.YtiiadibbkijnhaaGreatDoor
open Go.Ex
theorem insOk : KnownOk Tryz.prog 82 .insert := known_insert (ρ := nm22_ren) nm22 Tryz.func82 rfl
noncomputable def ext1 (f : FuncId) : Option ExtK := bif Nat.beq f 82 then some .insert else ext f
theorem ext1Ok : XOk Tryz.prog ext1 := by
  intro g k h
  unfold ext1 at h
  rcases cond_eq_some h with ⟨h1, h2⟩ | ⟨_, h2⟩
  · simp only [Option.some.injEq] at h2
    subst h2
    rw [beq_iff.1 h1]
    exact insOk
  · exact extOk g k h2
end Go.Proofs.YtiiadibbkijnhaaGreatDoor
