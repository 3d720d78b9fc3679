/-
  The witnesses' world holds the listed variables.
-/
import Derived.Test.YtiiadibbkijnhaaGreatDoorWorld
import Derived.Lib.LaidIn
namespace Go.Proofs.YtiiadibbkijnhaaGreatDoor
open Go.Lib

noncomputable abbrev wOf (os : Os) (args : Array Value) : World := ((laidWorld os).forCall (fun _ _ => 0) ⟨#[], args, []⟩).memory
theorem laid0 (os : Os) (args : Array Value) : LaidIn Tryz.prog (wOf os args) [("math/bits.deBruijn32tab", Rows.laid_math_bits_deBruijn32tab)] [9] := LaidIn.of_run [9] 8 (by kernel_rfl) (by kernel_rfl) (by kernel_rfl) (by kernel_rfl)
theorem laid1 (os : Os) (args : Array Value) : LaidIn Tryz.prog (wOf os args) [("math/bits.deBruijn64tab", Rows.laid_math_bits_deBruijn64tab)] [10] := LaidIn.of_run [10] 8 (by kernel_rfl) (by kernel_rfl) (by kernel_rfl) (by kernel_rfl)
theorem laid2 (os : Os) (args : Array Value) : LaidIn Tryz.prog (wOf os args) [("internal/strconv.uint64pow10", Rows.laid_internal_strconv_uint64pow10)] [8] := LaidIn.of_run [8] 8 (by kernel_rfl) (by kernel_rfl) (by kernel_rfl) (by kernel_rfl)
theorem laid3 (os : Os) (args : Array Value) : LaidIn Tryz.prog (wOf os args) [("unicode/utf8.acceptRanges", Rows.laid_unicode_utf8_acceptRanges)] [5] := LaidIn.of_run [5] 8 (by kernel_rfl) (by kernel_rfl) (by kernel_rfl) (by kernel_rfl)
theorem laid4 (os : Os) (args : Array Value) : LaidIn Tryz.prog (wOf os args) [("strconv.ErrRange", Rows.laid_strconv_ErrRange)] [7, N0] := LaidIn.of_run [7, N0] 8 (by kernel_rfl) (by kernel_rfl) (by kernel_rfl) (by kernel_rfl)
theorem laid5 (os : Os) (args : Array Value) : LaidIn Tryz.prog (wOf os args) [("strconv.ErrSyntax", Rows.laid_strconv_ErrSyntax)] [6, N0 + 1] := LaidIn.of_run [6, N0 + 1] 8 (by kernel_rfl) (by kernel_rfl) (by kernel_rfl) (by kernel_rfl)
theorem laid6 (os : Os) (args : Array Value) : LaidIn Tryz.prog (wOf os args) [("roster/schema.table", Rows.laid_roster_schema_table)] [1] := LaidIn.of_run [1] 8 (by kernel_rfl) (by kernel_rfl) (by kernel_rfl) (by kernel_rfl)
theorem laid7 (os : Os) (args : Array Value) : LaidIn Tryz.prog (wOf os args) [("roster/match.sorts", Rows.laid_roster_match_sorts)] [2] := LaidIn.of_run [2] 8 (by kernel_rfl) (by kernel_rfl) (by kernel_rfl) (by kernel_rfl)
theorem laid8 (os : Os) (args : Array Value) : LaidIn Tryz.prog (wOf os args) [("roster/match.forms", Rows.laid_roster_match_forms)] [0] := LaidIn.of_run [0] 8 (by kernel_rfl) (by kernel_rfl) (by kernel_rfl) (by kernel_rfl)
theorem laid9 (os : Os) (args : Array Value) : LaidIn Tryz.prog (wOf os args) [("unicode/utf8.first", Rows.laid_unicode_utf8_first)] [4] := LaidIn.of_run [4] 8 (by kernel_rfl) (by kernel_rfl) (by kernel_rfl) (by kernel_rfl)
theorem laid_met0 (os : Os) (args : Array Value) : laidMet Tryz.prog Rows.entryNilRow.laid (wOf os args) :=
  ((((((((((laid0 os args).append (laid1 os args) (by kernel_rfl)).append (laid2 os args) (by kernel_rfl)).append (laid3 os args) (by kernel_rfl)).append (laid4 os args) (by kernel_rfl)).append (laid5 os args) (by kernel_rfl)).append (laid6 os args) (by kernel_rfl)).append (laid7 os args) (by kernel_rfl)).append (laid8 os args) (by kernel_rfl)).append (laid9 os args) (by kernel_rfl)).met
end Go.Proofs.YtiiadibbkijnhaaGreatDoor
