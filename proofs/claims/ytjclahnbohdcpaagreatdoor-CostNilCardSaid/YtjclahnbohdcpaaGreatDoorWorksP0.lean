/-
  The run of function 6 in parts: the state that it begins with.
-/
import Derived.Test.YtjclahnbohdcpaaGreatDoorRun
namespace Go.Proofs.YtjclahnbohdcpaaGreatDoor
open Go.Ex
def worksOps : Code → Array Oper
  | .region _ ops _ => ops
  | _ => #[]
noncomputable def worksJ (_ : FuncId) : Bool := false
noncomputable def worksS0 : St := match enterA Tryz.prog 6 [] with
  | some fr => { fr, cs := [], hp := heapOf varsOf0, nx := 13, lb := 0, wl := [] }
  | none => { fr := ⟨0, 0, .lf, [], [], none, false⟩, cs := [], hp := .lf, nx := 0, lb := 0, wl := [] }
end Go.Proofs.YtjclahnbohdcpaaGreatDoor
