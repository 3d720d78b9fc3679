/-
  rosterlaw08.EntrySame answers true: its walk and its closed call.
-/
import Derived.Test.YtiiadibbkijnhaaGreatDoorWk8
import Derived.Test.YtiiadibbkijnhaaGreatDoorEntSame4
namespace Go.Proofs.YtiiadibbkijnhaaGreatDoor
open Go.RowKit Go.FltLaw Go.EntLaw
theorem entrySame_walk (W : World) (l : List Atr) (KA : Option Addr) (kc : Nat) (hE : EAt W 0 W.heap.size l KA kc) (m : List Atr) (KB : Option Addr) (kc' : Nat) (hE' : EAt W 0 W.heap.size m KB kc') (_ : W.ShapedOpen Tryz.prog) (hG : 11 ≤ W.heap.size) (hv : ∀ p ∈ varsOf0, HeldAs W p.1 p.2) :
    Calls Tryz.prog 5 #[ent KA l.length kc, ent KB m.length kc'] W fun e w' => e = .returned (.bool true) ∧ Below W.heap.size W w' := entrySame_walked W (works8 hv hG) l m KA KB kc kc' _ hE hE' (Nat.le_refl _)
end Go.Proofs.YtiiadibbkijnhaaGreatDoor
