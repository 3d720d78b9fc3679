/-
  The run of function 11 in parts: it answers true.
-/
import Derived.Test.YtiiadibbkijnhaaGreatDoorWorksP5
namespace Go.Proofs.YtiiadibbkijnhaaGreatDoor
open Go.Ex
theorem works_end : (match run Tryz.prog 11 ext1 worksJ 100000 worksS5 with | some (.bool b, _) => b | _ => false) = true := by kernel_rfl
theorem works_lead : Leads Tryz.prog 11 worksS0 worksS5 := ((part_keeps noNum ext1Ok mixed works_p1 rfl).trans ((part_keeps noNum ext1Ok mixed works_p2 rfl).trans ((part_keeps noNum ext1Ok mixed works_p3 rfl).trans ((part_keeps noNum ext1Ok mixed works_p4 rfl).trans (part_keeps noNum ext1Ok mixed works_p5 rfl)))))
theorem works_enter : ∃ fr, enterA Tryz.prog 11 [] = some fr ∧ worksS0 = { fr, cs := [], hp := heapOf varsOf0, nx := 11, lb := 0, wl := [] } := by
  have h : (enterA Tryz.prog 11 []).isSome = true := by kernel_rfl
  unfold worksS0
  cases hq : enterA Tryz.prog 11 [] with
  | none => rw [hq] at h; cases h
  | some fr => exact ⟨fr, rfl, rfl⟩
/-- The call answers true in whatever world that holds the variables. -/
theorem works_true {σ : Sg} {w : World} (hL : ∀ p ∈ varsOf0, p.1 < 11) (hrel : Rel w.heap.size 11 σ (heapOf varsOf0) w) (hf : ∀ i, 11 ≤ i → σ i = none) :
    Calls Tryz.prog 11 #[] w fun e w' => e = .returned (.bool true) ∧ RowKit.Below w.heap.size w w' := by
  obtain ⟨fr, h1, h2⟩ := works_enter
  have hl := works_lead
  rw [h2] at hl
  refine true_parts (J := worksJ) (n := 100000) (s1 := worksS5) noNum ext1Ok mixed h1 hL hl ?_ .nil hrel hf
  have he := works_end
  generalize run Tryz.prog 11 ext1 worksJ 100000 worksS5 = x at he ⊢
  exact he
end Go.Proofs.YtiiadibbkijnhaaGreatDoor
