/-
  The run of function 15 in parts: it answers true.
-/
import Derived.Test.YtdkfmckbeagenaaGreatDoorWakesP5
namespace Go.Proofs.YtdkfmckbeagenaaGreatDoor
open Go.Ex
theorem wakes_end : (match run Tryz.prog 12 ext wakesJ 20000 wakesS5 with | some (.bool b, _) => b | _ => false) = true := by kernel_rfl
theorem wakes_lead : Leads Tryz.prog 12 wakesS0 wakesS5 := ((part_keeps noNum extOk mixed wakes_p1 rfl).trans ((part_keeps noNum extOk mixed wakes_p2 rfl).trans ((part_keeps noNum extOk mixed wakes_p3 rfl).trans ((part_keeps noNum extOk mixed wakes_p4 rfl).trans (part_keeps noNum extOk mixed wakes_p5 rfl)))))
theorem wakes_enter : ∃ fr, enterA Tryz.prog 15 [] = some fr ∧ wakesS0 = { fr, cs := [], hp := heapOf varsOf0, nx := 12, lb := 0, wl := [] } := by
  have h : (enterA Tryz.prog 15 []).isSome = true := by kernel_rfl
  unfold wakesS0
  cases hq : enterA Tryz.prog 15 [] with
  | none => rw [hq] at h; cases h
  | some fr => exact ⟨fr, rfl, rfl⟩
/-- The call answers true in whatever world that holds the variables. -/
theorem wakes_true {σ : Sg} {w : World} (hL : ∀ p ∈ varsOf0, p.1 < 12) (hrel : Rel w.heap.size 12 σ (heapOf varsOf0) w) (hf : ∀ i, 12 ≤ i → σ i = none) :
    Calls Tryz.prog 15 #[] w fun e w' => e = .returned (.bool true) ∧ RowKit.Below w.heap.size w w' := by
  obtain ⟨fr, h1, h2⟩ := wakes_enter
  have hl := wakes_lead
  rw [h2] at hl
  refine true_parts (J := wakesJ) (n := 20000) (s1 := wakesS5) noNum extOk mixed h1 hL hl ?_ .nil hrel hf
  have he := wakes_end
  generalize run Tryz.prog 12 ext wakesJ 20000 wakesS5 = x at he ⊢
  exact he
end Go.Proofs.YtdkfmckbeagenaaGreatDoor
