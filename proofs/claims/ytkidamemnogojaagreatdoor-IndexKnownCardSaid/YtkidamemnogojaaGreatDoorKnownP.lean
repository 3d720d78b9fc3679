/-
  The run of function 4 in parts: it answers true.
-/
import Derived.Test.YtkidamemnogojaaGreatDoorKnownP4
namespace Go.Proofs.YtkidamemnogojaaGreatDoor
open Go.Ex
theorem known_end : (match run Tryz.prog 11 ext2 knownJ 20000 knownS4 with | some (.bool b, _) => b | _ => false) = true := by kernel_rfl
theorem known_lead : Leads Tryz.prog 11 knownS0 knownS4 := ((part_leads noNum ext2Ok mixed known_p1 rfl).trans ((part_leads noNum ext2Ok mixed known_p2 rfl).trans ((part_leads noNum ext2Ok mixed known_p3 rfl).trans (part_leads noNum ext2Ok mixed known_p4 rfl))))
theorem known_enter : ∃ fr, enterA Tryz.prog 4 [] = some fr ∧ knownS0 = { fr, cs := [], hp := heapOf varsOf0, nx := 11, lb := 0, wl := [] } := by
  have h : (enterA Tryz.prog 4 []).isSome = true := by kernel_rfl
  unfold knownS0
  cases hq : enterA Tryz.prog 4 [] with
  | none => rw [hq] at h; cases h
  | some fr => exact ⟨fr, rfl, rfl⟩
/-- The call answers true in whatever world that holds the variables. -/
theorem known_true {σ : Sg} {w : World} (hL : ∀ p ∈ varsOf0, p.1 < 11) (hrel : Rel w.heap.size 11 σ (heapOf varsOf0) w) (hf : ∀ i, 11 ≤ i → σ i = none) :
    Calls Tryz.prog 4 #[] w fun e w' => e = .returned (.bool true) ∧ RowKit.Below w.heap.size w w' := by
  obtain ⟨fr, h1, h2⟩ := known_enter
  have hl := known_lead
  rw [h2] at hl
  refine true_parts (J := knownJ) (n := 20000) (s1 := knownS4) noNum ext2Ok mixed h1 hL hl ?_ .nil hrel hf
  have he := known_end
  generalize run Tryz.prog 11 ext2 knownJ 20000 knownS4 = x at he ⊢
  exact he
end Go.Proofs.YtkidamemnogojaaGreatDoor
