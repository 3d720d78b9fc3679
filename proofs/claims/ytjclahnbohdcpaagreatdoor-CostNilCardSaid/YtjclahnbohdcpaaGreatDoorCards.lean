/-
  DERIVED. GIVEN WITH THE SEED: THE CARDS: each row of YtjclahnbohdcpaaGreatDoorRows.lean that lists a variable, with what it lists TIED to the program's text (the seventh form; the later family's looks); each row that meets fmt, with fmt's text TOLD by the authors' own Lean function (tested against real Go, not proved from fmt's source: count such statements apart). THE CARD IS WHAT COUNTS. Prove the row's statement (the work); the ties are given (YtjclahnbohdcpaaGreatDoorTie.lean); close each card by the builder's one call (the guide's Derived/Test/ToyasCard.lean, 'card_holds'). Laid BY PROGRAM, IN A SANDBOX (cutbox-door.mjs). By AI agents, Wed Nov 11 2026. No macro, syntax, notation, axiom, sorry.
-/
import Derived.Test.YtjclahnbohdcpaaGreatDoorRows
import GoSem.ClaimSeven
namespace Go.Proofs.YtjclahnbohdcpaaGreatDoor
namespace Rows

/-- THE TIED CARD OF 'rosterlaw17.CostNil'. -/
def costNilCard : Claim7 := { stood := { row := costNilRow, standIns := [], harness := (true, "1d2ab9ac71027eeb6fedc946684cff5d1ff1e2cb347c1ad67c10b8f90c3019c3"), looks := true }, kinds := [], alts := [], laidByText := true, laidKinds := [.data, .data, .data, .data, .sentinel, .sentinel, .data, .data, .pinned, .pinned], laidTests := true, laidLooks := .later }
def CostNilCardSaid : Prop := Claim7.holds Tryz.pinned (.plain (OpenSpec.ofChange costNilSpec)) costNilCard

/-- THE TIED CARD OF 'rosterlaw17.CostKnown'. -/
def costKnownCard : Claim7 := { stood := { row := costKnownRow, standIns := [], harness := (true, "1d2ab9ac71027eeb6fedc946684cff5d1ff1e2cb347c1ad67c10b8f90c3019c3"), looks := true }, kinds := [], alts := [], laidByText := true, laidKinds := [.data, .data, .data, .data, .sentinel, .sentinel, .data, .data, .pinned, .pinned], laidTests := true, laidLooks := .later }
def CostKnownCardSaid : Prop := Claim7.holds Tryz.pinned (.plain (OpenSpec.ofChange costKnownSpec)) costKnownCard

/-- THE SECOND FORM's CARD OF 'rosterlaw17.CostNil'. -/
def costNilUptoCard : Claim7 := { stood := { row := costNilUptoRow, standIns := [], harness := (true, "1d2ab9ac71027eeb6fedc946684cff5d1ff1e2cb347c1ad67c10b8f90c3019c3"), looks := true }, kinds := [], alts := [], laidByText := true, laidKinds := [.data, .data, .data, .data, .sentinel, .sentinel, .data, .data, .pinned, .pinned], laidTests := true, laidLooks := .later }
def CostNilUptoCardSaid : Prop := Claim7.holds Tryz.pinned (.plain (OpenSpec.upto costNilSpec)) costNilUptoCard

/-- THE SECOND FORM's CARD OF 'rosterlaw17.CostKnown'. -/
def costKnownUptoCard : Claim7 := { stood := { row := costKnownUptoRow, standIns := [], harness := (true, "1d2ab9ac71027eeb6fedc946684cff5d1ff1e2cb347c1ad67c10b8f90c3019c3"), looks := true }, kinds := [], alts := [], laidByText := true, laidKinds := [.data, .data, .data, .data, .sentinel, .sentinel, .data, .data, .pinned, .pinned], laidTests := true, laidLooks := .later }
def CostKnownUptoCardSaid : Prop := Claim7.holds Tryz.pinned (.plain (OpenSpec.upto costKnownSpec)) costKnownUptoCard
end Rows
end Go.Proofs.YtjclahnbohdcpaaGreatDoor
