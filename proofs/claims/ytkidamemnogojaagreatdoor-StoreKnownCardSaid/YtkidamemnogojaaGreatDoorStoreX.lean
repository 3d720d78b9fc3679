/-
  sort.Slice of none or one element, as a function that the abstract machine knows.
-/
import Derived.Test.YtkidamemnogojaaGreatDoorRun
import Derived.Test.YtkidamemnogojaaGreatDoorExTiny
import Derived.Test.YtkidamemnogojaaGreatDoorTinyLay
namespace Go.Proofs.YtkidamemnogojaaGreatDoor
open Go.Ex
noncomputable def tinyT : TypeInfo := (Tryz.prog.info? 256).get (by kernel_rfl)
noncomputable def tinyE : TypeInfo := (Tryz.prog.info? 261).get (by kernel_rfl)
theorem tinyOk : KnownOk Tryz.prog 144 (.tiny 256) :=
  known_tiny (ρ := gl6_ren) gl6 Tryz.func144 rfl 256 261 tinyT tinyE (by kernel_rfl) (by kernel_rfl) (by kernel_rfl) (by kernel_rfl) 25 (fun w => by kernel_rfl) 241 242 (by kernel_rfl) (by kernel_rfl)
noncomputable def ext3 (f : FuncId) : Option ExtK := bif Nat.beq f 144 then some (.tiny 256) else ext f
theorem ext3Ok : XOk Tryz.prog ext3 := by
  intro g k h
  unfold ext3 at h
  rcases cond_eq_some h with ⟨h1, h2⟩ | ⟨_, h2⟩
  · simp only [Option.some.injEq] at h2
    subst h2
    rw [beq_iff.1 h1]
    exact tinyOk
  · exact extOk g k h2
end Go.Proofs.YtkidamemnogojaaGreatDoor
