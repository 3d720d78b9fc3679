/-
  DERIVED. GIVEN WITH THE SEED: THE CARDS: each row of YtkidamemnogojabGreatDoorRows.lean that lists a variable, with what it lists TIED to the program's text (the seventh form; the later family's looks); each row that meets fmt, with fmt's text TOLD by the authors' own Lean function (tested against real Go, not proved from fmt's source: count such statements apart). THE CARD IS WHAT COUNTS. Prove the row's statement (the work); the ties are given (YtkidamemnogojabGreatDoorTie.lean); close each card by the builder's one call (the guide's Derived/Test/ToyasCard.lean, 'card_holds'). Laid BY PROGRAM, IN A SANDBOX (cutbox-door.mjs). By AI agents, Wed Nov 11 2026. No macro, syntax, notation, axiom, sorry.
-/
import Derived.Test.YtkidamemnogojabGreatDoorRows
import GoSem.ClaimSeven
namespace Go.Proofs.YtkidamemnogojabGreatDoor
namespace Rows

/-- THE TIED CARD OF 'rosterlaw22.RankPages'. -/
def rankPagesCard : Claim7 := { stood := { row := rankPagesRow, standIns := [], harness := (true, "79b2a612adb8dd64a6e31cd936d3aa03f617ae25f165fe16faf91f05430cdb70"), looks := true }, kinds := [], alts := [], laidByText := true, laidKinds := [.data, .data, .data, .data, .sentinel, .sentinel, .data, .data, .pinned], laidTests := true, laidLooks := .later }
def RankPagesCardSaid : Prop := Claim7.holds Tryz.pinned (.plain (OpenSpec.ofChange rankPagesSpec)) rankPagesCard

/-- THE TIED CARD OF 'rosterlaw22.RankWhole'. -/
def rankWholeCard : Claim7 := { stood := { row := rankWholeRow, standIns := [], harness := (true, "79b2a612adb8dd64a6e31cd936d3aa03f617ae25f165fe16faf91f05430cdb70"), looks := true }, kinds := [], alts := [], laidByText := true, laidKinds := [.data, .data, .data, .data, .sentinel, .sentinel, .data, .data, .pinned], laidTests := true, laidLooks := .later }
def RankWholeCardSaid : Prop := Claim7.holds Tryz.pinned (.plain (OpenSpec.ofChange rankWholeSpec)) rankWholeCard

/-- THE SECOND FORM's CARD OF 'rosterlaw22.RankPages'. -/
def rankPagesUptoCard : Claim7 := { stood := { row := rankPagesUptoRow, standIns := [], harness := (true, "79b2a612adb8dd64a6e31cd936d3aa03f617ae25f165fe16faf91f05430cdb70"), looks := true }, kinds := [], alts := [], laidByText := true, laidKinds := [.data, .data, .data, .data, .sentinel, .sentinel, .data, .data, .pinned], laidTests := true, laidLooks := .later }
def RankPagesUptoCardSaid : Prop := Claim7.holds Tryz.pinned (.plain (OpenSpec.upto rankPagesSpec)) rankPagesUptoCard

/-- THE SECOND FORM's CARD OF 'rosterlaw22.RankWhole'. -/
def rankWholeUptoCard : Claim7 := { stood := { row := rankWholeUptoRow, standIns := [], harness := (true, "79b2a612adb8dd64a6e31cd936d3aa03f617ae25f165fe16faf91f05430cdb70"), looks := true }, kinds := [], alts := [], laidByText := true, laidKinds := [.data, .data, .data, .data, .sentinel, .sentinel, .data, .data, .pinned], laidTests := true, laidLooks := .later }
def RankWholeUptoCardSaid : Prop := Claim7.holds Tryz.pinned (.plain (OpenSpec.upto rankWholeSpec)) rankWholeUptoCard
end Rows
end Go.Proofs.YtkidamemnogojabGreatDoor
