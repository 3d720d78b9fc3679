/-
  The run of function 11 in parts: the state that it begins with.
-/
import Derived.Test.YtiiadibbkijnhaaGreatDoorEntryX
namespace Go.Proofs.YtiiadibbkijnhaaGreatDoor
open Go.Ex
def worksOps : Code → Array Oper
  | .region _ ops _ => ops
  | _ => #[]
noncomputable def worksJ (f : FuncId) : Bool := Nat.beq f 50 || Nat.beq f 48 || Nat.beq f 1000008
noncomputable def worksS0 : St := match enterA Tryz.prog 11 [] with
  | some fr => { fr, cs := [], hp := heapOf varsOf0, nx := 11, lb := 0, wl := [] }
  | none => { fr := ⟨0, 0, .lf, [], [], none, false⟩, cs := [], hp := .lf, nx := 0, lb := 0, wl := [] }
end Go.Proofs.YtiiadibbkijnhaaGreatDoor
