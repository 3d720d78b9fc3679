/-
  rosterlaw08.EntryNil answers true: its walk and its closed call.
-/
import Derived.Test.YtiiadibbkijnhaaGreatDoorWk8
namespace Go.Proofs.YtiiadibbkijnhaaGreatDoor
open Go.RowKit Go.FltLaw Go.EntLaw
theorem entryNil_walk (W : World) (l : List Atr) (KA : Option Addr) (kc : Nat) (hE : EAt W 0 W.heap.size l KA kc) (mods : Value) (d : List UInt8) (_ : d.length ≤ 140737488351232) (_ : W.ShapedOpen Tryz.prog) (hG : 11 ≤ W.heap.size) (hv : ∀ p ∈ varsOf0, HeldAs W p.1 p.2) :
    Calls Tryz.prog 3 #[ent KA l.length kc, mods, .string ⟨d.toArray⟩] W fun e w' => e = .returned (.bool true) ∧ Below W.heap.size W w' := entryNil_walked W (works8 hv hG) l KA kc mods d _ hE (Nat.le_refl _)
end Go.Proofs.YtiiadibbkijnhaaGreatDoor
