/-
  DERIVED. GIVEN WITH THE SEED: THE CARDS: each row of YtdkfmckbeagenaaGreatDoorRows.lean that lists a variable, with what it lists TIED to the program's text (the seventh form; the later family's looks); each row that meets fmt, with fmt's text TOLD by the authors' own Lean function (tested against real Go, not proved from fmt's source: count such statements apart). THE CARD IS WHAT COUNTS. Prove the row's statement (the work); the ties are given (YtdkfmckbeagenaaGreatDoorTie.lean); close each card by the builder's one call (the guide's Derived/Test/ToyasCard.lean, 'card_holds'). Laid BY PROGRAM, IN A SANDBOX (cutbox-door.mjs). By AI agents, Wed Nov 11 2026. No macro, syntax, notation, axiom, sorry.
-/
import Derived.Test.YtdkfmckbeagenaaGreatDoorRows
import GoSem.ClaimSeven
namespace Go.Proofs.YtdkfmckbeagenaaGreatDoor
namespace Rows

/-- THE TIED CARD OF 'rosterlaw16.ShapeNormal'. -/
def shapeNormalCard : Claim7 := { stood := { row := shapeNormalRow, standIns := [], harness := (true, "3ad02dd3bb02b5da403948054b07501c3bee98142bcb1b27b1d0deb57fbca195"), looks := true }, kinds := [], alts := [], laidByText := true, laidKinds := [.data, .data, .pinned, .pinned], laidTests := true, laidLooks := .later }
def ShapeNormalCardSaid : Prop := Claim7.holds Tryz.pinned (.plain (OpenSpec.ofChange shapeNormalSpec)) shapeNormalCard

/-- THE TIED CARD OF 'rosterlaw16.ShapeNil'. -/
def shapeNilCard : Claim7 := { stood := { row := shapeNilRow, standIns := [], harness := (true, "3ad02dd3bb02b5da403948054b07501c3bee98142bcb1b27b1d0deb57fbca195"), looks := true }, kinds := [], alts := [], laidByText := true, laidKinds := [.data, .data, .pinned, .pinned], laidTests := true, laidLooks := .later }
def ShapeNilCardSaid : Prop := Claim7.holds Tryz.pinned (.plain (OpenSpec.ofChange shapeNilSpec)) shapeNilCard

/-- THE TIED CARD OF 'rosterlaw16.ShapeOrder'. -/
def shapeOrderCard : Claim7 := { stood := { row := shapeOrderRow, standIns := [], harness := (true, "3ad02dd3bb02b5da403948054b07501c3bee98142bcb1b27b1d0deb57fbca195"), looks := true }, kinds := [], alts := [], laidByText := true, laidKinds := [.data, .data, .pinned, .pinned], laidTests := true, laidLooks := .later }
def ShapeOrderCardSaid : Prop := Claim7.holds Tryz.pinned (.plain (OpenSpec.ofChange shapeOrderSpec)) shapeOrderCard

/-- THE SECOND FORM's CARD OF 'rosterlaw16.ShapeNormal'. -/
def shapeNormalUptoCard : Claim7 := { stood := { row := shapeNormalUptoRow, standIns := [], harness := (true, "3ad02dd3bb02b5da403948054b07501c3bee98142bcb1b27b1d0deb57fbca195"), looks := true }, kinds := [], alts := [], laidByText := true, laidKinds := [.data, .data, .pinned, .pinned], laidTests := true, laidLooks := .later }
def ShapeNormalUptoCardSaid : Prop := Claim7.holds Tryz.pinned (.plain (OpenSpec.upto shapeNormalSpec)) shapeNormalUptoCard

/-- THE SECOND FORM's CARD OF 'rosterlaw16.ShapeNil'. -/
def shapeNilUptoCard : Claim7 := { stood := { row := shapeNilUptoRow, standIns := [], harness := (true, "3ad02dd3bb02b5da403948054b07501c3bee98142bcb1b27b1d0deb57fbca195"), looks := true }, kinds := [], alts := [], laidByText := true, laidKinds := [.data, .data, .pinned, .pinned], laidTests := true, laidLooks := .later }
def ShapeNilUptoCardSaid : Prop := Claim7.holds Tryz.pinned (.plain (OpenSpec.upto shapeNilSpec)) shapeNilUptoCard

/-- THE SECOND FORM's CARD OF 'rosterlaw16.ShapeOrder'. -/
def shapeOrderUptoCard : Claim7 := { stood := { row := shapeOrderUptoRow, standIns := [], harness := (true, "3ad02dd3bb02b5da403948054b07501c3bee98142bcb1b27b1d0deb57fbca195"), looks := true }, kinds := [], alts := [], laidByText := true, laidKinds := [.data, .data, .pinned, .pinned], laidTests := true, laidLooks := .later }
def ShapeOrderUptoCardSaid : Prop := Claim7.holds Tryz.pinned (.plain (OpenSpec.upto shapeOrderSpec)) shapeOrderUptoCard
end Rows
end Go.Proofs.YtdkfmckbeagenaaGreatDoor
