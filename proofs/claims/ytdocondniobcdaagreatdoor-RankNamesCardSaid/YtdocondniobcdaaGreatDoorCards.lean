/-
  DERIVED. GIVEN WITH THE SEED: THE CARDS: each row of YtdocondniobcdaaGreatDoorRows.lean that lists a variable, with what it lists TIED to the program's text (the seventh form; the later family's looks); each row that meets fmt, with fmt's text TOLD by the authors' own Lean function (tested against real Go, not proved from fmt's source: count such statements apart). THE CARD IS WHAT COUNTS. Prove the row's statement (the work); the ties are given (YtdocondniobcdaaGreatDoorTie.lean); close each card by the builder's one call (the guide's Derived/Test/ToyasCard.lean, 'card_holds'). Laid BY PROGRAM, IN A SANDBOX (cutbox-door.mjs). By AI agents, Wed Nov 11 2026. No macro, syntax, notation, axiom, sorry.
-/
import Derived.Test.YtdocondniobcdaaGreatDoorRows
import GoSem.ClaimSeven
namespace Go.Proofs.YtdocondniobcdaaGreatDoor
namespace Rows

/-- THE TIED CARD OF 'rosterlaw22.RankSorts'. -/
def rankSortsCard : Claim7 := { stood := { row := rankSortsRow, standIns := [], harness := (true, "68008289b9d69b2b5faef3bdd6350528ce63e20e9e1ccecf48a0aea7056b5543"), looks := true }, kinds := [], alts := [], laidByText := true, laidKinds := [.data, .data, .data, .data, .sentinel, .sentinel, .data, .data, .pinned], laidTests := true, laidLooks := .later }
def RankSortsCardSaid : Prop := Claim7.holds Tryz.pinned (.plain (OpenSpec.ofChange rankSortsSpec)) rankSortsCard

/-- THE TIED CARD OF 'rosterlaw22.RankPages'. -/
def rankPagesCard : Claim7 := { stood := { row := rankPagesRow, standIns := [], harness := (true, "68008289b9d69b2b5faef3bdd6350528ce63e20e9e1ccecf48a0aea7056b5543"), looks := true }, kinds := [], alts := [], laidByText := true, laidKinds := [.data, .data, .data, .data, .sentinel, .sentinel, .data, .data, .pinned], laidTests := true, laidLooks := .later }
def RankPagesCardSaid : Prop := Claim7.holds Tryz.pinned (.plain (OpenSpec.ofChange rankPagesSpec)) rankPagesCard

/-- THE TIED CARD OF 'rosterlaw22.RankNames'. -/
def rankNamesCard : Claim7 := { stood := { row := rankNamesRow, standIns := [], harness := (true, "68008289b9d69b2b5faef3bdd6350528ce63e20e9e1ccecf48a0aea7056b5543"), looks := true }, kinds := [], alts := [], laidByText := true, laidKinds := [.data, .data, .data, .data, .sentinel, .sentinel, .data, .data, .pinned], laidTests := true, laidLooks := .later }
def RankNamesCardSaid : Prop := Claim7.holds Tryz.pinned (.plain (OpenSpec.ofChange rankNamesSpec)) rankNamesCard

/-- THE TIED CARD OF 'rosterlaw22.RankOrder'. -/
def rankOrderCard : Claim7 := { stood := { row := rankOrderRow, standIns := [], harness := (true, "68008289b9d69b2b5faef3bdd6350528ce63e20e9e1ccecf48a0aea7056b5543"), looks := true }, kinds := [], alts := [], laidByText := true, laidKinds := [.data, .data, .data, .data, .sentinel, .sentinel, .data, .data, .pinned], laidTests := true, laidLooks := .later }
def RankOrderCardSaid : Prop := Claim7.holds Tryz.pinned (.plain (OpenSpec.ofChange rankOrderSpec)) rankOrderCard

/-- THE TIED CARD OF 'rosterlaw22.RankWhole'. -/
def rankWholeCard : Claim7 := { stood := { row := rankWholeRow, standIns := [], harness := (true, "68008289b9d69b2b5faef3bdd6350528ce63e20e9e1ccecf48a0aea7056b5543"), looks := true }, kinds := [], alts := [], laidByText := true, laidKinds := [.data, .data, .data, .data, .sentinel, .sentinel, .data, .data, .pinned], laidTests := true, laidLooks := .later }
def RankWholeCardSaid : Prop := Claim7.holds Tryz.pinned (.plain (OpenSpec.ofChange rankWholeSpec)) rankWholeCard

/-- THE SECOND FORM's CARD OF 'rosterlaw22.RankSorts'. -/
def rankSortsUptoCard : Claim7 := { stood := { row := rankSortsUptoRow, standIns := [], harness := (true, "68008289b9d69b2b5faef3bdd6350528ce63e20e9e1ccecf48a0aea7056b5543"), looks := true }, kinds := [], alts := [], laidByText := true, laidKinds := [.data, .data, .data, .data, .sentinel, .sentinel, .data, .data, .pinned], laidTests := true, laidLooks := .later }
def RankSortsUptoCardSaid : Prop := Claim7.holds Tryz.pinned (.plain (OpenSpec.upto rankSortsSpec)) rankSortsUptoCard

/-- THE SECOND FORM's CARD OF 'rosterlaw22.RankPages'. -/
def rankPagesUptoCard : Claim7 := { stood := { row := rankPagesUptoRow, standIns := [], harness := (true, "68008289b9d69b2b5faef3bdd6350528ce63e20e9e1ccecf48a0aea7056b5543"), looks := true }, kinds := [], alts := [], laidByText := true, laidKinds := [.data, .data, .data, .data, .sentinel, .sentinel, .data, .data, .pinned], laidTests := true, laidLooks := .later }
def RankPagesUptoCardSaid : Prop := Claim7.holds Tryz.pinned (.plain (OpenSpec.upto rankPagesSpec)) rankPagesUptoCard

/-- THE SECOND FORM's CARD OF 'rosterlaw22.RankNames'. -/
def rankNamesUptoCard : Claim7 := { stood := { row := rankNamesUptoRow, standIns := [], harness := (true, "68008289b9d69b2b5faef3bdd6350528ce63e20e9e1ccecf48a0aea7056b5543"), looks := true }, kinds := [], alts := [], laidByText := true, laidKinds := [.data, .data, .data, .data, .sentinel, .sentinel, .data, .data, .pinned], laidTests := true, laidLooks := .later }
def RankNamesUptoCardSaid : Prop := Claim7.holds Tryz.pinned (.plain (OpenSpec.upto rankNamesSpec)) rankNamesUptoCard

/-- THE SECOND FORM's CARD OF 'rosterlaw22.RankOrder'. -/
def rankOrderUptoCard : Claim7 := { stood := { row := rankOrderUptoRow, standIns := [], harness := (true, "68008289b9d69b2b5faef3bdd6350528ce63e20e9e1ccecf48a0aea7056b5543"), looks := true }, kinds := [], alts := [], laidByText := true, laidKinds := [.data, .data, .data, .data, .sentinel, .sentinel, .data, .data, .pinned], laidTests := true, laidLooks := .later }
def RankOrderUptoCardSaid : Prop := Claim7.holds Tryz.pinned (.plain (OpenSpec.upto rankOrderSpec)) rankOrderUptoCard

/-- THE SECOND FORM's CARD OF 'rosterlaw22.RankWhole'. -/
def rankWholeUptoCard : Claim7 := { stood := { row := rankWholeUptoRow, standIns := [], harness := (true, "68008289b9d69b2b5faef3bdd6350528ce63e20e9e1ccecf48a0aea7056b5543"), looks := true }, kinds := [], alts := [], laidByText := true, laidKinds := [.data, .data, .data, .data, .sentinel, .sentinel, .data, .data, .pinned], laidTests := true, laidLooks := .later }
def RankWholeUptoCardSaid : Prop := Claim7.holds Tryz.pinned (.plain (OpenSpec.upto rankWholeSpec)) rankWholeUptoCard
end Rows
end Go.Proofs.YtdocondniobcdaaGreatDoor
