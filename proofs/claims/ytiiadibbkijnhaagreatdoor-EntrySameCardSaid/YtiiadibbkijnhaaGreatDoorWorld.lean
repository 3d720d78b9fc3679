/-
  A world for the witnesses: the settled one, the listed variables holding what their initialisers lay.
-/
import Derived.Test.YtiiadibbkijnhaaGreatDoorRows
import Derived.ProofKit
import Derived.OpenShut
import Derived.Deep.DeepHandedRow
import Derived.Deep.DeepWitnessRowRef
import Derived.Lib.LaidTab
namespace Go.Proofs.YtiiadibbkijnhaaGreatDoor
open Go.ChangeShapes Go.WideShapes Go.ChangeAt Go.RowKit

theorem own : ownKnob Tryz.prog.godebug = none := by kernel_rfl

def litV : Lit → Value
  | .bool b => .bool b
  | .int k n => .int k n
  | .float k b => .float k b
  | .string s => .string ⟨s.toArray⟩
  | .nil => .nilIface
mutual
def cellsV : DataW Unit → List Value
  | .lit l => [litV l]
  | .agg ps => cellsVs ps
  | _ => []
def cellsVs : List (DataW Unit) → List Value
  | [] => []
  | d :: r => cellsV d ++ cellsVs r
end

def cellsS : DataW Unit → List Value
  | .slice l _ => cellsVs l
  | _ => []

noncomputable abbrev N0 : Nat := (World.settled Tryz.prog default).heap.size
noncomputable def laidWorld (os : Os) : World :=
  let N := (World.settled Tryz.prog os).heap.size
  let w0 := World.holding Tryz.prog os ⟨#[.cells #[.string ⟨#[118, 97, 108, 117, 101, 32, 111, 117, 116, 32, 111, 102, 32, 114, 97, 110, 103, 101]⟩] 341, .cells #[.string ⟨#[105, 110, 118, 97, 108, 105, 100, 32, 115, 121, 110, 116, 97, 120]⟩] 341], #[], []⟩
  let put (h : Array Obj) (g : Nat) (cs : List Value) : Array Obj := h.modify g fun
    | .cells _ t frozen => .cells cs.toArray t frozen
    | o => o
  let h0 := w0.heap
  let h1 := put h0 9 (cellsV Rows.laid_math_bits_deBruijn32tab)
  let h2 := put h1 10 (cellsV Rows.laid_math_bits_deBruijn64tab)
  let h3 := put h2 8 (cellsV Rows.laid_internal_strconv_uint64pow10)
  let h4 := put h3 5 (cellsV Rows.laid_unicode_utf8_acceptRanges)
  let h5 := put h4 1 (cellsV Rows.laid_roster_schema_table)
  let h6 := put h5 2 (cellsV Rows.laid_roster_match_sorts)
  let h7 := put h6 0 (cellsV Rows.laid_roster_match_forms)
  let h8 := put h7 4 (cellsV Rows.laid_unicode_utf8_first)
  let h9 := put h8 7 [.iface 339 (.pointer (some ⟨N, 0, none⟩))]
  let h10 := put h9 6 [.iface 339 (.pointer (some ⟨N + 1, 0, none⟩))]
  { w0 with heap := h10 }
theorem laidWorld_os (os : Os) : (laidWorld os).os = os := rfl
end Go.Proofs.YtiiadibbkijnhaaGreatDoor
