/-
  The run of function 4 in parts: it answers true.
-/
import Derived.Test.YtiiadibbkijnhaaGreatDoorEknownP11
namespace Go.Proofs.YtiiadibbkijnhaaGreatDoor
open Go.Ex
theorem eknown_end : (match run Tryz.prog 11 ext2 eknownJ 100000 eknownS11 with | some (.bool b, _) => b | _ => false) = true := by kernel_rfl
theorem eknown_lead : Leads Tryz.prog 11 eknownS0 eknownS11 := ((part_keeps noNum ext2Ok mixed eknown_p1 rfl).trans ((part_keeps noNum ext2Ok mixed eknown_p2 rfl).trans ((part_keeps noNum ext2Ok mixed eknown_p3 rfl).trans ((part_keeps noNum ext2Ok mixed eknown_p4 rfl).trans ((part_keeps noNum ext2Ok mixed eknown_p5 rfl).trans ((part_keeps noNum ext2Ok mixed eknown_p6 rfl).trans ((part_keeps noNum ext2Ok mixed eknown_p7 rfl).trans ((part_keeps noNum ext2Ok mixed eknown_p8 rfl).trans ((part_keeps noNum ext2Ok mixed eknown_p9 rfl).trans ((part_keeps noNum ext2Ok mixed eknown_p10 rfl).trans (part_keeps noNum ext2Ok mixed eknown_p11 rfl)))))))))))
theorem eknown_enter : ∃ fr, enterA Tryz.prog 4 [] = some fr ∧ eknownS0 = { fr, cs := [], hp := heapOf varsOf0, nx := 11, lb := 0, wl := [] } := by
  have h : (enterA Tryz.prog 4 []).isSome = true := by kernel_rfl
  unfold eknownS0
  cases hq : enterA Tryz.prog 4 [] with
  | none => rw [hq] at h; cases h
  | some fr => exact ⟨fr, rfl, rfl⟩
/-- The call answers true in whatever world that holds the variables. -/
theorem eknown_true {σ : Sg} {w : World} (hL : ∀ p ∈ varsOf0, p.1 < 11) (hrel : Rel w.heap.size 11 σ (heapOf varsOf0) w) (hf : ∀ i, 11 ≤ i → σ i = none) :
    Calls Tryz.prog 4 #[] w fun e w' => e = .returned (.bool true) ∧ RowKit.Below w.heap.size w w' := by
  obtain ⟨fr, h1, h2⟩ := eknown_enter
  have hl := eknown_lead
  rw [h2] at hl
  refine true_parts (J := eknownJ) (n := 100000) (s1 := eknownS11) noNum ext2Ok mixed h1 hL hl ?_ .nil hrel hf
  have he := eknown_end
  generalize run Tryz.prog 11 ext2 eknownJ 100000 eknownS11 = x at he ⊢
  exact he
end Go.Proofs.YtiiadibbkijnhaaGreatDoor
