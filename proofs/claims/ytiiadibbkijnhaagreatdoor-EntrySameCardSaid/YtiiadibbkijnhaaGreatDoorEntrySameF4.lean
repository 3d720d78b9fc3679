/-
  rosterlaw: closed facts of the row entrySame, part 4: what the form asks of the program and of the row, limb by limb.
-/
import Derived.Test.YtiiadibbkijnhaaGreatDoorCards
import Derived.Test.YtiiadibbkijnhaaGreatDoorTie
import Derived.ProofKit
import Derived.JoinedCond
import Derived.KernelRfl
namespace Go.Proofs.YtiiadibbkijnhaaGreatDoor
open Go.ChangeShapes Go.WideShapes Go.ChangeAt Go.RowKit

theorem entrySame_f22 : ((Rows.entrySameRow.plainKeys == Tryz.pinned.checked.prog.plainKeys)) = true := by kernel_rfl
theorem entrySame_f23 : (Rows.entrySameRow.shortTexts.isNone) = true := by kernel_rfl
theorem entrySame_f24 : (Tryz.pinned.checked.prog.stopsHeard) = true := by kernel_rfl
theorem entrySame_f25 : (Tryz.pinned.checked.prog.mayEnter) = true := by kernel_rfl
theorem entrySame_f26 : ((Rows.entrySameRow.lifted == Tryz.pinned.checked.prog.liftsFinal)) = true := by kernel_rfl
theorem entrySame_f27 : ((Tryz.pinned.checked.prog.make == some Rows.entrySameRow.make)) = true := by kernel_rfl
theorem entrySame_f28 : ((Rows.entrySameRow.kinds == (if Rows.entrySameRow.domain.isEmpty then [] else Tryz.f5.params.toList.map fun t => match Tryz.pinned.checked.prog.underlying t with | some (.int k) => some k | _ => none))) = true := by kernel_rfl
theorem entrySame_f29 : ((Rows.entrySameRow.pinned == Rows.entrySameRow.pinnedBy)) = true := by kernel_rfl
theorem entrySame_f30 : ((Rows.entrySameRow.veiled == (Tryz.f5.params.toList ++ (OpenSpec.ofChange Rows.entrySameSpec).bare.plain.varTypes Tryz.pinned.checked.prog ++ Tryz.f5.resultTypes.toList).any (Tryz.pinned.checked.prog.veiledRec ·))) = true := by kernel_rfl
theorem entrySame_f31 : (Rows.entrySameRow.veiledFits Tryz.pinned.checked.prog Tryz.f5.params.toList (Tryz.f5.params.toList ++ (OpenSpec.ofChange Rows.entrySameSpec).bare.plain.varTypes Tryz.pinned.checked.prog ++ Tryz.f5.resultTypes.toList)) = true := by kernel_rfl
end Go.Proofs.YtiiadibbkijnhaaGreatDoor
