/-
  The run of function 4 in parts: it answers true.
-/
import Derived.Test.YtjclahnbohdcpaaGreatDoorKnownP7
namespace Go.Proofs.YtjclahnbohdcpaaGreatDoor
open Go.Ex
theorem known_end : (match run Tryz.prog 13 ext knownJ 20000 knownS7 with | some (.bool b, _) => b | _ => false) = true := by kernel_rfl
theorem known_lead : Leads Tryz.prog 13 knownS0 knownS7 := ((part_keeps noNum extOk mixed known_p1 rfl).trans ((part_keeps noNum extOk mixed known_p2 rfl).trans ((part_keeps noNum extOk mixed known_p3 rfl).trans ((part_keeps noNum extOk mixed known_p4 rfl).trans ((part_keeps noNum extOk mixed known_p5 rfl).trans ((part_keeps noNum extOk mixed known_p6 rfl).trans (part_keeps noNum extOk mixed known_p7 rfl)))))))
theorem known_enter : ∃ fr, enterA Tryz.prog 4 [] = some fr ∧ knownS0 = { fr, cs := [], hp := heapOf varsOf0, nx := 13, lb := 0, wl := [] } := by
  have h : (enterA Tryz.prog 4 []).isSome = true := by kernel_rfl
  unfold knownS0
  cases hq : enterA Tryz.prog 4 [] with
  | none => rw [hq] at h; cases h
  | some fr => exact ⟨fr, rfl, rfl⟩
/-- The call answers true in whatever world that holds the variables. -/
theorem known_true {σ : Sg} {w : World} (hL : ∀ p ∈ varsOf0, p.1 < 13) (hrel : Rel w.heap.size 13 σ (heapOf varsOf0) w) (hf : ∀ i, 13 ≤ i → σ i = none) :
    Calls Tryz.prog 4 #[] w fun e w' => e = .returned (.bool true) ∧ RowKit.Below w.heap.size w w' := by
  obtain ⟨fr, h1, h2⟩ := known_enter
  have hl := known_lead
  rw [h2] at hl
  refine true_parts (J := knownJ) (n := 20000) (s1 := knownS7) noNum extOk mixed h1 hL hl ?_ .nil hrel hf
  have he := known_end
  generalize run Tryz.prog 13 ext knownJ 20000 knownS7 = x at he ⊢
  exact he
end Go.Proofs.YtjclahnbohdcpaaGreatDoor
