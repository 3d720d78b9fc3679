/-
  DERIVED. GIVEN WITH THE SEED: THE CARDS: each row of YtiiadibbkijnhaaGreatDoorRows.lean that lists a variable, with what it lists TIED to the program's text (the seventh form; the later family's looks); each row that meets fmt, with fmt's text TOLD by the authors' own Lean function (tested against real Go, not proved from fmt's source: count such statements apart). THE CARD IS WHAT COUNTS. Prove the row's statement (the work); the ties are given (YtiiadibbkijnhaaGreatDoorTie.lean); close each card by the builder's one call (the guide's Derived/Test/ToyasCard.lean, 'card_holds'). Laid BY PROGRAM, IN A SANDBOX (cutbox-door.mjs). By AI agents, Wed Nov 11 2026. No macro, syntax, notation, axiom, sorry.
-/
import Derived.Test.YtiiadibbkijnhaaGreatDoorRows
import GoSem.ClaimSeven
namespace Go.Proofs.YtiiadibbkijnhaaGreatDoor
namespace Rows

/-- THE TIED CARD OF 'rosterlaw08.EntryNil'. -/
def entryNilCard : Claim7 := { stood := { row := entryNilRow, standIns := [], harness := (true, "ad28ec3f823d8d583548bed6ed0587f61525cb3c70e1f4073c48473c384c5f5f"), looks := true }, kinds := [], alts := [], laidByText := true, laidKinds := [.data, .data, .data, .data, .sentinel, .sentinel, .data, .data, .data, .pinned], laidTests := true, laidLooks := .later }
def EntryNilCardSaid : Prop := Claim7.holds Tryz.pinned (.plain (OpenSpec.ofChange entryNilSpec)) entryNilCard

/-- THE TIED CARD OF 'rosterlaw08.EntryKnown'. -/
def entryKnownCard : Claim7 := { stood := { row := entryKnownRow, standIns := [], harness := (true, "ad28ec3f823d8d583548bed6ed0587f61525cb3c70e1f4073c48473c384c5f5f"), looks := true }, kinds := [], alts := [], laidByText := true, laidKinds := [.data, .data, .data, .data, .sentinel, .sentinel, .data, .data, .data, .pinned], laidTests := true, laidLooks := .later }
def EntryKnownCardSaid : Prop := Claim7.holds Tryz.pinned (.plain (OpenSpec.ofChange entryKnownSpec)) entryKnownCard

/-- THE TIED CARD OF 'rosterlaw08.EntrySame'. -/
def entrySameCard : Claim7 := { stood := { row := entrySameRow, standIns := [], harness := (true, "ad28ec3f823d8d583548bed6ed0587f61525cb3c70e1f4073c48473c384c5f5f"), looks := true }, kinds := [], alts := [], laidByText := true, laidKinds := [.data, .data, .data, .data, .sentinel, .sentinel, .data, .data, .data, .pinned], laidTests := true, laidLooks := .later }
def EntrySameCardSaid : Prop := Claim7.holds Tryz.pinned (.plain (OpenSpec.ofChange entrySameSpec)) entrySameCard

/-- THE SECOND FORM's CARD OF 'rosterlaw08.EntryNil'. -/
def entryNilUptoCard : Claim7 := { stood := { row := entryNilUptoRow, standIns := [], harness := (true, "ad28ec3f823d8d583548bed6ed0587f61525cb3c70e1f4073c48473c384c5f5f"), looks := true }, kinds := [], alts := [], laidByText := true, laidKinds := [.data, .data, .data, .data, .sentinel, .sentinel, .data, .data, .data, .pinned], laidTests := true, laidLooks := .later }
def EntryNilUptoCardSaid : Prop := Claim7.holds Tryz.pinned (.plain (OpenSpec.upto entryNilSpec)) entryNilUptoCard

/-- THE SECOND FORM's CARD OF 'rosterlaw08.EntryKnown'. -/
def entryKnownUptoCard : Claim7 := { stood := { row := entryKnownUptoRow, standIns := [], harness := (true, "ad28ec3f823d8d583548bed6ed0587f61525cb3c70e1f4073c48473c384c5f5f"), looks := true }, kinds := [], alts := [], laidByText := true, laidKinds := [.data, .data, .data, .data, .sentinel, .sentinel, .data, .data, .data, .pinned], laidTests := true, laidLooks := .later }
def EntryKnownUptoCardSaid : Prop := Claim7.holds Tryz.pinned (.plain (OpenSpec.upto entryKnownSpec)) entryKnownUptoCard

/-- THE SECOND FORM's CARD OF 'rosterlaw08.EntrySame'. -/
def entrySameUptoCard : Claim7 := { stood := { row := entrySameUptoRow, standIns := [], harness := (true, "ad28ec3f823d8d583548bed6ed0587f61525cb3c70e1f4073c48473c384c5f5f"), looks := true }, kinds := [], alts := [], laidByText := true, laidKinds := [.data, .data, .data, .data, .sentinel, .sentinel, .data, .data, .data, .pinned], laidTests := true, laidLooks := .later }
def EntrySameUptoCardSaid : Prop := Claim7.holds Tryz.pinned (.plain (OpenSpec.upto entrySameSpec)) entrySameUptoCard
end Rows
end Go.Proofs.YtiiadibbkijnhaaGreatDoor
