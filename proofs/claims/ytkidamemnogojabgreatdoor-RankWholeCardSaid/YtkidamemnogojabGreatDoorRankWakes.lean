/-
  rosterlaw22.wakes answers true: the abstract machine runs it.
-/
import Derived.Test.YtkidamemnogojabGreatDoorRun
namespace Go.Proofs.YtkidamemnogojabGreatDoor
open Go.Ex
theorem wakes_ran : ranTrueA Tryz.prog ext (fun _ => false) 10 varsOf0 8 [] 20000 = true := by kernel_rfl
theorem HeldAs.below {w w' : World} {B g : Nat} {l : List AV} (h : HeldAs w g l) (hb : RowKit.Below B w w') (hB : 10 ≤ B) : HeldAs w' g l := by
  have e : sg0 Tryz.prog w' 10 = sg0 Tryz.prog w 10 := by
    funext i
    unfold sg0
    by_cases hi : i < 10
    · rw [if_pos hi, if_pos hi, hb.block i (by omega)]
    · rw [if_neg hi, if_neg hi]
  obtain ⟨h1, c, tt, h2, h3, h4⟩ := h
  refine ⟨h1, c, tt, ?_, ?_, h4⟩
  · rw [hb.block g (by omega)]; exact h2
  · rw [e]; exact h3
theorem wakes_any {w : World} (h : ∀ p ∈ varsOf0, HeldAs w p.1 p.2) : Calls Tryz.prog 8 #[] w fun e w' => e = .returned (.bool true) ∧ RowKit.Below w.heap.size w w' :=
  calls_true noNum extOk mixed wakes_ran h
end Go.Proofs.YtkidamemnogojabGreatDoor
