/-
  The closed call of layer 8 answers true wherever the variables hold what is laid.
-/
import Derived.Test.YtiiadibbkijnhaaGreatDoorWorksP
import Derived.Test.YtiiadibbkijnhaaGreatDoorEntNil3
namespace Go.Proofs.YtiiadibbkijnhaaGreatDoor
open Go.Ex
theorem HeldAs.below {w w' : World} {B g : Nat} {l : List AV} (h : HeldAs w g l) (hb : RowKit.Below B w w') (hB : 11 ≤ B) : HeldAs w' g l := by
  have e : sg0 Tryz.prog w' 11 = sg0 Tryz.prog w 11 := by
    funext i
    unfold sg0
    by_cases hi : i < 11
    · rw [if_pos hi, if_pos hi, hb.block i (by omega)]
    · rw [if_neg hi, if_neg hi]
  obtain ⟨h1, c, tt, h2, h3, h4⟩ := h
  refine ⟨h1, c, tt, ?_, ?_, h4⟩
  · rw [hb.block g (by omega)]; exact h2
  · rw [e]; exact h3
theorem works8 {W : World} (hv : ∀ p ∈ varsOf0, HeldAs W p.1 p.2) (hG : 11 ≤ W.heap.size) : Works8 W := fun _ hb =>
  works_true (fun p hp => (hv p hp).1) (rel_vars fun p hp => (hv p hp).below hb hG) (fun i hi => by simp [sg0]; omega)
theorem size_of {W : World} (h : W.ShapedOpen Tryz.prog) : 11 ≤ W.heap.size := by
  obtain ⟨h1, _⟩ := h
  have hk : (((begin Tryz.prog (fun _ _ => 0) default).world.heap[10]?).bind Obj.row?).isSome = true := by kernel_rfl
  obtain ⟨⟨zero, t⟩, hz⟩ := Option.isSome_iff_exists.1 hk
  obtain ⟨cs, hcs, _⟩ := h1 10 zero t (by decide) hz
  exact (Array.getElem?_eq_some_iff.1 hcs).1
end Go.Proofs.YtiiadibbkijnhaaGreatDoor
