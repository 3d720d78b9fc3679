/-
  rosterlaw17.CostNil answers true: its walk and its closed call.
-/
import Derived.Test.YtjclahnbohdcpaaGreatDoorWk17
namespace Go.Proofs.YtjclahnbohdcpaaGreatDoor
open Go.RowKit Go.FltLaw
theorem costNil_walk (W : World) (fuel : Nat) (f : Flt) (v : Value) (hF : FAt false W 0 W.heap.size fuel f v) (c : Int) (ix : Bool) (A : Option Addr) (n m : Nat) (a : Nat) (nc ng : Bool) (_ : W.ShapedOpen Tryz.prog) (hG : 13 ≤ W.heap.size) (hv : ∀ p ∈ varsOf0, HeldAs W p.1 p.2) :
    Calls Tryz.prog 3 #[v, .agg #[.int .u64 c, .bool ix, .slice A n m, .float .f64 a, .bool nc, .bool ng]] W fun e w' => e = .returned (.bool true) ∧ Below W.heap.size W w' := costNil_walked W (works17 hv hG) fuel f v hF c ix A n m a nc ng
end Go.Proofs.YtjclahnbohdcpaaGreatDoor
