/-
  The run of function 29 in parts: it answers true.
-/
import Derived.Test.YtkidamemnogojaaGreatDoorLivesP10
namespace Go.Proofs.YtkidamemnogojaaGreatDoor
open Go.Ex
theorem lives_end : (match run Tryz.prog 11 ext3 livesJ 20000 livesS10 with | some (.bool b, _) => b | _ => false) = true := by kernel_rfl
theorem lives_lead : Leads Tryz.prog 11 livesS0 livesS10 := ((part_keeps noNum ext3Ok mixed lives_p1 rfl).trans ((part_keeps noNum ext3Ok mixed lives_p2 rfl).trans ((part_keeps noNum ext3Ok mixed lives_p3 rfl).trans ((part_keeps noNum ext3Ok mixed lives_p4 rfl).trans ((part_keeps noNum ext3Ok mixed lives_p5 rfl).trans ((part_keeps noNum ext3Ok mixed lives_p6 rfl).trans ((part_keeps noNum ext3Ok mixed lives_p7 rfl).trans ((part_keeps noNum ext3Ok mixed lives_p8 rfl).trans ((part_keeps noNum ext3Ok mixed lives_p9 rfl).trans (part_keeps noNum ext3Ok mixed lives_p10 rfl))))))))))
theorem lives_enter : ∃ fr, enterA Tryz.prog 29 [] = some fr ∧ livesS0 = { fr, cs := [], hp := heapOf varsOf1, nx := 11, lb := 0, wl := [] } := by
  have h : (enterA Tryz.prog 29 []).isSome = true := by kernel_rfl
  unfold livesS0
  cases hq : enterA Tryz.prog 29 [] with
  | none => rw [hq] at h; cases h
  | some fr => exact ⟨fr, rfl, rfl⟩
/-- The call answers true in whatever world that holds the variables. -/
theorem lives_true {σ : Sg} {w : World} (hL : ∀ p ∈ varsOf1, p.1 < 11) (hrel : Rel w.heap.size 11 σ (heapOf varsOf1) w) (hf : ∀ i, 11 ≤ i → σ i = none) :
    Calls Tryz.prog 29 #[] w fun e w' => e = .returned (.bool true) ∧ RowKit.Below w.heap.size w w' := by
  obtain ⟨fr, h1, h2⟩ := lives_enter
  have hl := lives_lead
  rw [h2] at hl
  refine true_parts (J := livesJ) (n := 20000) (s1 := livesS10) noNum ext3Ok mixed h1 hL hl ?_ .nil hrel hf
  have he := lives_end
  generalize run Tryz.prog 11 ext3 livesJ 20000 livesS10 = x at he ⊢
  exact he
end Go.Proofs.YtkidamemnogojaaGreatDoor
