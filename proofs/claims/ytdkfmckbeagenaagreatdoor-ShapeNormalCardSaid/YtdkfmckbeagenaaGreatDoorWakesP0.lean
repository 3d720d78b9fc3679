/-
  The run of function 15 in parts: the state that it begins with.
-/
import Derived.Test.YtdkfmckbeagenaaGreatDoorRun
namespace Go.Proofs.YtdkfmckbeagenaaGreatDoor
open Go.Ex
def wakesOps : Code → Array Oper
 | .region _ ops _ => ops
 | _ => #[]
noncomputable def wakesJ (_ : FuncId) : Bool := false
noncomputable def wakesS0 : St := match enterA Tryz.prog 15 [] with
 | some fr => { fr, cs := [], hp := heapOf varsOf0, nx := 12, lb := 0, wl := [] }
 | none => { fr := ⟨0, 0, .lf, [], [], none, false⟩, cs := [], hp := .lf, nx := 0, lb := 0, wl := [] }
end Go.Proofs.YtdkfmckbeagenaaGreatDoor
