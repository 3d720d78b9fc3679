/-
  The run of function 13 in parts: the state that it begins with.
-/
import Derived.Test.YtkidamemnogojaaGreatDoorRun
namespace Go.Proofs.YtkidamemnogojaaGreatDoor
open Go.Ex
noncomputable def worksJ (f : FuncId) : Bool := Nat.beq f 116 || Nat.beq f 82 || Nat.beq f 123 || Nat.beq f 9
noncomputable def worksS0 : St := match enterA Tryz.prog 13 [] with
  | some fr => { fr, cs := [], hp := heapOf varsOf0, nx := 11, lb := 0, wl := [] }
  | none => { fr := ⟨0, 0, .lf, [], [], none, false⟩, cs := [], hp := .lf, nx := 0, lb := 0, wl := [] }
end Go.Proofs.YtkidamemnogojaaGreatDoor
