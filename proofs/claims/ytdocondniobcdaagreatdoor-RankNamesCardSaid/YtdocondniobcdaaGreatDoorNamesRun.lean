/-
  The abstract machine's run of rosterlaw22.RankNames: it answers true.
-/
import Derived.Test.YtdocondniobcdaaGreatDoorRun
namespace Go.Proofs.YtdocondniobcdaaGreatDoor
open Go.Ex
theorem namesRan : ranTrue Tryz.prog ext 10 varsOf 5 30000 = true := by kernel_rfl
end Go.Proofs.YtdocondniobcdaaGreatDoor
