/-
  NARROWER THAN 'FOR EVERY INPUT', by the rows' own cells (each row's printed sentence says how): ShapeNormal: loops, laid · ShapeNil: loops, laid · ShapeOrder: loops, laid.
  DERIVED. THE GIVEN ROWS OF THIS SEAT. 3 by the template 'for every input the law returns true; each argument reads behind the call as it read before'; 0 by the template 'total and deterministic' (their statements: YtdkfmckbeagenaaGreatDoorTotals.lean).
  GIVEN WITH THE SEED: the statements are not yours to turn. If you find one false, say at which input.
  Laid BY PROGRAM, IN A SANDBOX (cutbox-rows.mjs): the forced cells as the released guide's own fill.sh prints them over the translation c36e5aec38b50b39… (all of the seat's roots in one cut). By AI agents, Wed Nov 11 2026. No macro, syntax, notation, axiom, sorry.
-/
import Derived.Test.YtdkfmckbeagenaaGreatDoorChecked
import GoSem.PinnedTables
import GoSem.Claim
import GoSem.ClaimJoined
import GoSem.ClaimMapViews
import Derived.JoinedTies
import Derived.KernelRfl
namespace Go.Proofs.YtdkfmckbeagenaaGreatDoor
/- THE CELL 'sum', in the pinned program and in every row, IS THE sha256 OF THE DUMP (.gsa) THAT YtdkfmckbeagenaaGreatDoorProg.lean LOADS. Nothing in Lean hashes anything: it is a label: what it is worth is what the hold of that sum in a sandbox is worth. -/
noncomputable def Tryz.pinned : Pinned := { name := "ytdkfmckbeagenaagreatdoor", sum := "c36e5aec38b50b398cf3f34f23dfb1449a1753a10a5054b1f301c89b225326e6", checked := Tryz.checked }
namespace Rows
def none {H : Type} : Left H := { results := [], args := [] }

/- WHAT THE LISTED PACKAGE-LEVEL VARIABLES READ AS WHEN THE CALL BEGINS. Each datum BY PROGRAM (the guide's laid-datum.mjs) off the statement by which the dump's own 'gosem.cut.vars' lays the variable. In a bare row this is a premise. The card (YtdkfmckbeagenaaGreatDoorCards.lean) ties it to the program's text. -/
def laid_unicode_utf8_acceptRanges {H : Type} : DataW H := .agg [.agg [.lit (.int .u8 128), .lit (.int .u8 191)], .agg [.lit (.int .u8 160), .lit (.int .u8 191)], .agg [.lit (.int .u8 128), .lit (.int .u8 159)], .agg [.lit (.int .u8 144), .lit (.int .u8 191)], .agg [.lit (.int .u8 128), .lit (.int .u8 143)], .agg [.lit (.int .u8 0), .lit (.int .u8 0)], .agg [.lit (.int .u8 0), .lit (.int .u8 0)], .agg [.lit (.int .u8 0), .lit (.int .u8 0)], .agg [.lit (.int .u8 0), .lit (.int .u8 0)], .agg [.lit (.int .u8 0), .lit (.int .u8 0)], .agg [.lit (.int .u8 0), .lit (.int .u8 0)], .agg [.lit (.int .u8 0), .lit (.int .u8 0)], .agg [.lit (.int .u8 0), .lit (.int .u8 0)], .agg [.lit (.int .u8 0), .lit (.int .u8 0)], .agg [.lit (.int .u8 0), .lit (.int .u8 0)], .agg [.lit (.int .u8 0), .lit (.int .u8 0)]]
def laid_roster_schema_table {H : Type} : DataW H := .agg [.agg [.lit (.string []), .lit (.string []), .lit (.int .i8 (-1)), .lit (.int .i8 (-1)), .lit (.int .i8 (-1))], .agg [.lit (.string [99, 97, 115, 101, 73, 103, 110, 111, 114, 101, 77, 97, 116, 99, 104]), .lit (.string [50]), .lit (.int .i8 0), .lit (.int .i8 0), .lit (.int .i8 0)], .agg [.lit (.string [99, 97, 115, 101, 73, 103, 110, 111, 114, 101, 79, 114, 100, 101, 114, 105, 110, 103, 77, 97, 116, 99, 104]), .lit (.string [51]), .lit (.int .i8 0), .lit (.int .i8 1), .lit (.int .i8 0)], .agg [.lit (.string [99, 97, 115, 101, 73, 103, 110, 111, 114, 101, 83, 117, 98, 115, 116, 114, 105, 110, 103, 115, 77, 97, 116, 99, 104]), .lit (.string [52]), .lit (.int .i8 0), .lit (.int .i8 2), .lit (.int .i8 0)], .agg [.lit (.string [99, 97, 115, 101, 69, 120, 97, 99, 116, 77, 97, 116, 99, 104]), .lit (.string [53]), .lit (.int .i8 0), .lit (.int .i8 0), .lit (.int .i8 1)], .agg [.lit (.string [99, 97, 115, 101, 69, 120, 97, 99, 116, 79, 114, 100, 101, 114, 105, 110, 103, 77, 97, 116, 99, 104]), .lit (.string [54]), .lit (.int .i8 0), .lit (.int .i8 1), .lit (.int .i8 1)], .agg [.lit (.string [99, 97, 115, 101, 69, 120, 97, 99, 116, 83, 117, 98, 115, 116, 114, 105, 110, 103, 115, 77, 97, 116, 99, 104]), .lit (.string [55]), .lit (.int .i8 0), .lit (.int .i8 2), .lit (.int .i8 1)], .agg [.lit (.string [110, 117, 109, 101, 114, 105, 99, 83, 116, 114, 105, 110, 103, 77, 97, 116, 99, 104]), .lit (.string [56]), .lit (.int .i8 1), .lit (.int .i8 0), .lit (.int .i8 2)], .agg [.lit (.string [110, 117, 109, 101, 114, 105, 99, 83, 116, 114, 105, 110, 103, 79, 114, 100, 101, 114, 105, 110, 103, 77, 97, 116, 99, 104]), .lit (.string [57]), .lit (.int .i8 1), .lit (.int .i8 1), .lit (.int .i8 2)], .agg [.lit (.string [110, 117, 109, 101, 114, 105, 99, 83, 116, 114, 105, 110, 103, 83, 117, 98, 115, 116, 114, 105, 110, 103, 115, 77, 97, 116, 99, 104]), .lit (.string [49, 48]), .lit (.int .i8 1), .lit (.int .i8 2), .lit (.int .i8 2)], .agg [.lit (.string [116, 101, 108, 101, 112, 104, 111, 110, 101, 78, 117, 109, 98, 101, 114, 77, 97, 116, 99, 104]), .lit (.string [50, 48]), .lit (.int .i8 2), .lit (.int .i8 0), .lit (.int .i8 3)], .agg [.lit (.string [116, 101, 108, 101, 112, 104, 111, 110, 101, 78, 117, 109, 98, 101, 114, 83, 117, 98, 115, 116, 114, 105, 110, 103, 115, 77, 97, 116, 99, 104]), .lit (.string [50, 49]), .lit (.int .i8 2), .lit (.int .i8 2), .lit (.int .i8 3)], .agg [.lit (.string [105, 110, 116, 101, 103, 101, 114, 77, 97, 116, 99, 104]), .lit (.string [49, 52]), .lit (.int .i8 3), .lit (.int .i8 0), .lit (.int .i8 4)], .agg [.lit (.string [105, 110, 116, 101, 103, 101, 114, 79, 114, 100, 101, 114, 105, 110, 103, 77, 97, 116, 99, 104]), .lit (.string [49, 53]), .lit (.int .i8 3), .lit (.int .i8 1), .lit (.int .i8 4)], .agg [.lit (.string [98, 111, 111, 108, 101, 97, 110, 77, 97, 116, 99, 104]), .lit (.string [49, 51]), .lit (.int .i8 4), .lit (.int .i8 0), .lit (.int .i8 5)], .agg [.lit (.string [103, 101, 110, 101, 114, 97, 108, 105, 122, 101, 100, 84, 105, 109, 101, 77, 97, 116, 99, 104]), .lit (.string [50, 55]), .lit (.int .i8 5), .lit (.int .i8 0), .lit (.int .i8 6)], .agg [.lit (.string [103, 101, 110, 101, 114, 97, 108, 105, 122, 101, 100, 84, 105, 109, 101, 79, 114, 100, 101, 114, 105, 110, 103, 77, 97, 116, 99, 104]), .lit (.string [50, 56]), .lit (.int .i8 5), .lit (.int .i8 1), .lit (.int .i8 6)], .agg [.lit (.string [111, 99, 116, 101, 116, 83, 116, 114, 105, 110, 103, 77, 97, 116, 99, 104]), .lit (.string [49, 55]), .lit (.int .i8 6), .lit (.int .i8 0), .lit (.int .i8 7)], .agg [.lit (.string [111, 99, 116, 101, 116, 83, 116, 114, 105, 110, 103, 79, 114, 100, 101, 114, 105, 110, 103, 77, 97, 116, 99, 104]), .lit (.string [49, 56]), .lit (.int .i8 6), .lit (.int .i8 1), .lit (.int .i8 7)], .agg [.lit (.string [100, 105, 115, 116, 105, 110, 103, 117, 105, 115, 104, 101, 100, 78, 97, 109, 101, 77, 97, 116, 99, 104]), .lit (.string [49]), .lit (.int .i8 7), .lit (.int .i8 0), .lit (.int .i8 (-1))], .agg [.lit (.string [111, 98, 106, 101, 99, 116, 73, 100, 101, 110, 116, 105, 102, 105, 101, 114, 77, 97, 116, 99, 104]), .lit (.string [48]), .lit (.int .i8 8), .lit (.int .i8 0), .lit (.int .i8 8)]]
/-- One of Go's own tables, pinned by name: the form's constant. -/
def laid_unicode_CaseRanges : DataW Unit := Go.Pinned.caseRanges
/-- One of Go's own tables, pinned by name: the form's constant. -/
def laid_unicode_utf8_first : DataW Unit := Go.Pinned.utf8First

/-- 'rosterlaw16.ShapeNormal': WHATEVER THE INPUT: true; the input reads as it did. -/
def shapeNormalSpec : ChangeSpec := { name := "shapeNormal", fn := fun _ => fun
  | [d] => { results := [.lit (.bool true)], args := [d] }
  | _ => none }
def shapeNormalRow : OpenClaim := { program := "ytdkfmckbeagenaagreatdoor", sum := "c36e5aec38b50b398cf3f34f23dfb1449a1753a10a5054b1f301c89b225326e6", func := "roster/rosterlaw16.ShapeNormal", spec := "shapeNormal", inPlace := ["internal/bytealg.CountString", "internal/bytealg.IndexByteString", "internal/bytealg.IndexString", "internal/abi.NoEscape", "internal/bytealg.MakeNoZero", "internal/bytealg.abigen_runtime_cmpstring"], unfollowed := true, recurses := true, named := ["unicode/utf8.first", "unicode/utf8.acceptRanges", "internal/bytealg.MaxLen", "unicode.CaseRanges", "roster/schema.table"], loops := true, apart := false, laid := [("unicode/utf8.acceptRanges", laid_unicode_utf8_acceptRanges), ("roster/schema.table", laid_roster_schema_table), ("unicode.CaseRanges", laid_unicode_CaseRanges), ("unicode/utf8.first", laid_unicode_utf8_first)] }
def ShapeNormalSaid : Prop := shapeNormalRow.holds Tryz.pinned (OpenSpec.ofChange shapeNormalSpec)

/-- ITS FALSE NEIGHBOUR: 'it returns false'. Refute it at one input. -/
def shapeNormalWrong : ChangeSpec := { name := "shapeNormal", fn := fun _ => fun
  | [d] => { results := [.lit (.bool false)], args := [d] }
  | _ => none }
def ShapeNormalWrongFalsely : Prop := shapeNormalRow.holds Tryz.pinned (OpenSpec.ofChange shapeNormalWrong)

/-- 'rosterlaw16.ShapeNil': WHATEVER THE INPUT: true; the input reads as it did. -/
def shapeNilSpec : ChangeSpec := { name := "shapeNil", fn := fun _ => fun
  | [d] => { results := [.lit (.bool true)], args := [d] }
  | _ => none }
def shapeNilRow : OpenClaim := { program := "ytdkfmckbeagenaagreatdoor", sum := "c36e5aec38b50b398cf3f34f23dfb1449a1753a10a5054b1f301c89b225326e6", func := "roster/rosterlaw16.ShapeNil", spec := "shapeNil", inPlace := ["internal/bytealg.CountString", "internal/bytealg.IndexByteString", "internal/bytealg.IndexString", "internal/abi.NoEscape", "internal/bytealg.MakeNoZero", "internal/bytealg.abigen_runtime_cmpstring"], unfollowed := true, recurses := true, named := ["unicode/utf8.first", "unicode/utf8.acceptRanges", "internal/bytealg.MaxLen", "unicode.CaseRanges", "roster/schema.table"], loops := true, apart := false, laid := [("unicode/utf8.acceptRanges", laid_unicode_utf8_acceptRanges), ("roster/schema.table", laid_roster_schema_table), ("unicode.CaseRanges", laid_unicode_CaseRanges), ("unicode/utf8.first", laid_unicode_utf8_first)] }
def ShapeNilSaid : Prop := shapeNilRow.holds Tryz.pinned (OpenSpec.ofChange shapeNilSpec)

/-- ITS FALSE NEIGHBOUR: 'it returns false'. Refute it at one input. -/
def shapeNilWrong : ChangeSpec := { name := "shapeNil", fn := fun _ => fun
  | [d] => { results := [.lit (.bool false)], args := [d] }
  | _ => none }
def ShapeNilWrongFalsely : Prop := shapeNilRow.holds Tryz.pinned (OpenSpec.ofChange shapeNilWrong)

/-- 'rosterlaw16.ShapeOrder': WHATEVER THE INPUT: true; the input reads as it did. -/
def shapeOrderSpec : ChangeSpec := { name := "shapeOrder", fn := fun _ => fun
  | [d1, d2] => { results := [.lit (.bool true)], args := [d1, d2] }
  | _ => none }
def shapeOrderRow : OpenClaim := { program := "ytdkfmckbeagenaagreatdoor", sum := "c36e5aec38b50b398cf3f34f23dfb1449a1753a10a5054b1f301c89b225326e6", func := "roster/rosterlaw16.ShapeOrder", spec := "shapeOrder", inPlace := ["internal/bytealg.CountString", "internal/bytealg.IndexByteString", "internal/bytealg.IndexString", "internal/abi.NoEscape", "internal/bytealg.MakeNoZero", "internal/bytealg.abigen_runtime_cmpstring"], unfollowed := true, recurses := true, named := ["unicode/utf8.first", "unicode/utf8.acceptRanges", "internal/bytealg.MaxLen", "unicode.CaseRanges", "roster/schema.table"], loops := true, apart := false, laid := [("unicode/utf8.acceptRanges", laid_unicode_utf8_acceptRanges), ("roster/schema.table", laid_roster_schema_table), ("unicode.CaseRanges", laid_unicode_CaseRanges), ("unicode/utf8.first", laid_unicode_utf8_first)] }
def ShapeOrderSaid : Prop := shapeOrderRow.holds Tryz.pinned (OpenSpec.ofChange shapeOrderSpec)

/-- ITS FALSE NEIGHBOUR: 'it returns false'. Refute it at one input. -/
def shapeOrderWrong : ChangeSpec := { name := "shapeOrder", fn := fun _ => fun
  | [d1, d2] => { results := [.lit (.bool false)], args := [d1, d2] }
  | _ => none }
def ShapeOrderWrongFalsely : Prop := shapeOrderRow.holds Tryz.pinned (OpenSpec.ofChange shapeOrderWrong)

/- THE SECOND FORM. 'bulk': how many values and letters a reading holds, each counted each time it is reached (what is shared counts as often as it is met; a slice's spare places count too). A statement '..UptoSaid' is the law's where the arguments, and the package variables that the reading takes, are together of bulk at most 1048576: NARROWER than '..Said'. Prove '..Said' where nothing that the law and all that it calls make is longer than what came in: it says more and counts as full. Else prove '..UptoSaid'. A law counts once. -/
mutual
def uptoBulk {H : Type} : DataW H → Nat
  | .lit (.string bytes) => bytes.length + 1
  | .lit _ => 1
  | .nil => 1
  | .ptr d => uptoBulk d + 1
  | .slice elems spare => uptoBulkAll elems + uptoBulkAll spare + 1
  | .agg parts => uptoBulkAll parts + 1
  | .iface _ d => uptoBulk d + 1
  | .map entries => uptoBulkEntries entries + 1
  | .held _ => 1
def uptoBulkAll {H : Type} : List (DataW H) → Nat
  | [] => 0
  | d :: r => uptoBulk d + uptoBulkAll r
def uptoBulkEntries {H : Type} : List (Lit × DataW H) → Nat
  | [] => 0
  | x :: r => uptoBulkEntry x + uptoBulkEntries r
def uptoBulkEntry {H : Type} : Lit × DataW H → Nat
  | (.string bytes, d) => bytes.length + uptoBulk d + 1
  | (_, d) => uptoBulk d + 1
 end
def uptoSmall : (H : Type) → List (DataW H) → Bool := fun _ ds => decide (uptoBulkAll ds ≤ 1048576)
def OpenSpec.upto (s : _root_.Go.ChangeSpec) : _root_.Go.OpenSpec := { _root_.Go.OpenSpec.ofChange s with cond := some uptoSmall }

/-- 'rosterlaw16.ShapeNormal', WHERE WHAT IT READS IS OF BULK AT MOST 1048576: true; the input reads as it did. -/
def shapeNormalUptoRow : OpenClaim := { program := "ytdkfmckbeagenaagreatdoor", sum := "c36e5aec38b50b398cf3f34f23dfb1449a1753a10a5054b1f301c89b225326e6", func := "roster/rosterlaw16.ShapeNormal", spec := "shapeNormal", inPlace := ["internal/bytealg.CountString", "internal/bytealg.IndexByteString", "internal/bytealg.IndexString", "internal/abi.NoEscape", "internal/bytealg.MakeNoZero", "internal/bytealg.abigen_runtime_cmpstring"], unfollowed := true, recurses := true, named := ["unicode/utf8.first", "unicode/utf8.acceptRanges", "internal/bytealg.MaxLen", "unicode.CaseRanges", "roster/schema.table"], loops := true, apart := false, laid := [("unicode/utf8.acceptRanges", laid_unicode_utf8_acceptRanges), ("roster/schema.table", laid_roster_schema_table), ("unicode.CaseRanges", laid_unicode_CaseRanges), ("unicode/utf8.first", laid_unicode_utf8_first)], narrowed := true }
def ShapeNormalUptoSaid : Prop := shapeNormalUptoRow.holds Tryz.pinned (OpenSpec.upto shapeNormalSpec)

/-- 'rosterlaw16.ShapeNil', WHERE WHAT IT READS IS OF BULK AT MOST 1048576: true; the input reads as it did. -/
def shapeNilUptoRow : OpenClaim := { program := "ytdkfmckbeagenaagreatdoor", sum := "c36e5aec38b50b398cf3f34f23dfb1449a1753a10a5054b1f301c89b225326e6", func := "roster/rosterlaw16.ShapeNil", spec := "shapeNil", inPlace := ["internal/bytealg.CountString", "internal/bytealg.IndexByteString", "internal/bytealg.IndexString", "internal/abi.NoEscape", "internal/bytealg.MakeNoZero", "internal/bytealg.abigen_runtime_cmpstring"], unfollowed := true, recurses := true, named := ["unicode/utf8.first", "unicode/utf8.acceptRanges", "internal/bytealg.MaxLen", "unicode.CaseRanges", "roster/schema.table"], loops := true, apart := false, laid := [("unicode/utf8.acceptRanges", laid_unicode_utf8_acceptRanges), ("roster/schema.table", laid_roster_schema_table), ("unicode.CaseRanges", laid_unicode_CaseRanges), ("unicode/utf8.first", laid_unicode_utf8_first)], narrowed := true }
def ShapeNilUptoSaid : Prop := shapeNilUptoRow.holds Tryz.pinned (OpenSpec.upto shapeNilSpec)

/-- 'rosterlaw16.ShapeOrder', WHERE WHAT IT READS IS OF BULK AT MOST 1048576: true; the input reads as it did. -/
def shapeOrderUptoRow : OpenClaim := { program := "ytdkfmckbeagenaagreatdoor", sum := "c36e5aec38b50b398cf3f34f23dfb1449a1753a10a5054b1f301c89b225326e6", func := "roster/rosterlaw16.ShapeOrder", spec := "shapeOrder", inPlace := ["internal/bytealg.CountString", "internal/bytealg.IndexByteString", "internal/bytealg.IndexString", "internal/abi.NoEscape", "internal/bytealg.MakeNoZero", "internal/bytealg.abigen_runtime_cmpstring"], unfollowed := true, recurses := true, named := ["unicode/utf8.first", "unicode/utf8.acceptRanges", "internal/bytealg.MaxLen", "unicode.CaseRanges", "roster/schema.table"], loops := true, apart := false, laid := [("unicode/utf8.acceptRanges", laid_unicode_utf8_acceptRanges), ("roster/schema.table", laid_roster_schema_table), ("unicode.CaseRanges", laid_unicode_CaseRanges), ("unicode/utf8.first", laid_unicode_utf8_first)], narrowed := true }
def ShapeOrderUptoSaid : Prop := shapeOrderUptoRow.holds Tryz.pinned (OpenSpec.upto shapeOrderSpec)

end Rows
end Go.Proofs.YtdkfmckbeagenaaGreatDoor
