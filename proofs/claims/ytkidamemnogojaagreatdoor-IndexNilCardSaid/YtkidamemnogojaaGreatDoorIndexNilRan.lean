/-
  The abstract machine's run of roster/rosterlaw14.IndexNil: it answers true.
-/
import Derived.Test.YtkidamemnogojaaGreatDoorWorksK
import Derived.Test.YtkidamemnogojaaGreatDoorExArgs
namespace Go.Proofs.YtkidamemnogojaaGreatDoor
open Go.Ex
theorem indexNil_ran : ranTrueA Tryz.prog ext2 (fun f => Nat.beq f 116 || Nat.beq f 82 || Nat.beq f 123 || Nat.beq f 9) 11 varsOf0 3 (Tryz.f3.params.toList.map (openA Tryz.checked.prog)) 3000 = true := by kernel_rfl
end Go.Proofs.YtkidamemnogojaaGreatDoor
