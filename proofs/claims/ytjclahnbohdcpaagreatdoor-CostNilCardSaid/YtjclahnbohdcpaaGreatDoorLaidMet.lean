/-
  The witnesses' world holds the listed variables.
-/
import Derived.Test.YtjclahnbohdcpaaGreatDoorWorld
import Derived.Lib.LaidIn
namespace Go.Proofs.YtjclahnbohdcpaaGreatDoor

noncomputable abbrev wOf0 (os : Os) (args : Array Value) : World := ((laidWorld0 os).forCall (fun _ _ => 0) ⟨#[], args, []⟩).memory
theorem laid_met0 (os : Os) (args : Array Value) : laidMet Tryz.prog Rows.costNilRow.laid (wOf0 os args) := laidMet_laidAll args (by kernel_rfl) (by kernel_rfl)
end Go.Proofs.YtjclahnbohdcpaaGreatDoor
