/-
  The run of function 6 in parts: it answers true.
-/
import Derived.Test.YtjclahnbohdcpaaGreatDoorWorksP3
namespace Go.Proofs.YtjclahnbohdcpaaGreatDoor
open Go.Ex
theorem works_end : (match run Tryz.prog 13 ext worksJ 20000 worksS3 with | some (.bool b, _) => b | _ => false) = true := by kernel_rfl
theorem works_lead : Leads Tryz.prog 13 worksS0 worksS3 := ((part_keeps noNum extOk mixed works_p1 rfl).trans ((part_keeps noNum extOk mixed works_p2 rfl).trans (part_keeps noNum extOk mixed works_p3 rfl)))
theorem works_enter : ∃ fr, enterA Tryz.prog 6 [] = some fr ∧ worksS0 = { fr, cs := [], hp := heapOf varsOf0, nx := 13, lb := 0, wl := [] } := by
  have h : (enterA Tryz.prog 6 []).isSome = true := by kernel_rfl
  unfold worksS0
  cases hq : enterA Tryz.prog 6 [] with
  | none => rw [hq] at h; cases h
  | some fr => exact ⟨fr, rfl, rfl⟩
/-- The call answers true in whatever world that holds the variables. -/
theorem works_true {σ : Sg} {w : World} (hL : ∀ p ∈ varsOf0, p.1 < 13) (hrel : Rel w.heap.size 13 σ (heapOf varsOf0) w) (hf : ∀ i, 13 ≤ i → σ i = none) :
    Calls Tryz.prog 6 #[] w fun e w' => e = .returned (.bool true) ∧ RowKit.Below w.heap.size w w' := by
  obtain ⟨fr, h1, h2⟩ := works_enter
  have hl := works_lead
  rw [h2] at hl
  refine true_parts (J := worksJ) (n := 20000) (s1 := worksS3) noNum extOk mixed h1 hL hl ?_ .nil hrel hf
  have he := works_end
  generalize run Tryz.prog 13 ext worksJ 20000 worksS3 = x at he ⊢
  exact he
end Go.Proofs.YtjclahnbohdcpaaGreatDoor
