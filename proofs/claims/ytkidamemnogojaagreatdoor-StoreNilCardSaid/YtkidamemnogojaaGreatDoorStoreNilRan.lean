/-
  The abstract machine's run of roster/rosterlaw15.StoreNil: it answers true.
-/
import Derived.Test.YtkidamemnogojaaGreatDoorLivesK
import Derived.Test.YtkidamemnogojaaGreatDoorExArgs
namespace Go.Proofs.YtkidamemnogojaaGreatDoor
open Go.Ex
theorem storeNil_ran : ranTrueA Tryz.prog ext4 (fun f => Nat.beq f 116 || Nat.beq f 82 || Nat.beq f 123 || Nat.beq f 9 || Nat.beq f 151 || Nat.beq f 1000065) 11 varsOf1 5 (Tryz.f5.params.toList.map (openA Tryz.checked.prog)) 3000 = true := by kernel_rfl
end Go.Proofs.YtkidamemnogojaaGreatDoor
