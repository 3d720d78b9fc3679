/-
  The run of function 6 in parts: the state that it begins with.
-/
import Derived.Test.YtkidamemnogojaaGreatDoorStoreY
namespace Go.Proofs.YtkidamemnogojaaGreatDoor
open Go.Ex
def sknOps : Code → Array Oper
  | .region _ ops _ => ops
  | _ => #[]
noncomputable def sknJ (f : FuncId) : Bool := Nat.beq f 116 || Nat.beq f 82 || Nat.beq f 123 || Nat.beq f 9 || Nat.beq f 151 || Nat.beq f 1000065
noncomputable def sknS0 : St := match enterA Tryz.prog 6 [] with
  | some fr => { fr, cs := [], hp := heapOf varsOf1, nx := 11, lb := 0, wl := [] }
  | none => { fr := ⟨0, 0, .lf, [], [], none, false⟩, cs := [], hp := .lf, nx := 0, lb := 0, wl := [] }
end Go.Proofs.YtkidamemnogojaaGreatDoor
