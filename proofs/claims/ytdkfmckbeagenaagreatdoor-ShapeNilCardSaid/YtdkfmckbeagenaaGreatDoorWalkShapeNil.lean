/-
  rosterlaw16.ShapeNil answers true: its walk and its closed call.
-/
import Derived.Test.YtdkfmckbeagenaaGreatDoorWk16
namespace Go.Proofs.YtdkfmckbeagenaaGreatDoor
open Go.RowKit Go.FltLaw
theorem shapeNil_walk (W : World) (fuel : Nat) (f : Flt) (v : Value) (hF : FAt false W 0 W.heap.size fuel f v) (_ : W.ShapedOpen Tryz.prog) (hG : 12 ≤ W.heap.size) (hv : ∀ p ∈ varsOf0, HeldAs W p.1 p.2) :
    Calls Tryz.prog 4 #[v] W fun e w' => e = .returned (.bool true) ∧ Below W.heap.size W w' := shapeNil_walked W (wakes16 hv hG) fuel f v hF
end Go.Proofs.YtdkfmckbeagenaaGreatDoor
