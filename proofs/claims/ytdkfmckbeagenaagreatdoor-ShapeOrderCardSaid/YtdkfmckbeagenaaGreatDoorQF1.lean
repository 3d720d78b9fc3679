/-
  The run of function 15 in parts: it answers true.
  The closed call of layer 16 answers true wherever the variables hold what is laid.
  rosterlaw16.ShapeOrder answers true: its walk and its closed call.
-/
import Derived.Test.YtdkfmckbeagenaaGreatDoorWakesP5
import Derived.Test.YtdkfmckbeagenaaGreatDoorQE4
import Derived.Test.YtdkfmckbeagenaaGreatDoorFltO17
namespace Go.Proofs.YtdkfmckbeagenaaGreatDoor
open Go.Ex
theorem wakes_end : (match run Tryz.prog 12 ext wakesJ 20000 wakesS5 with | some (.bool b, _) => b | _ => false) = true := by kernel_rfl
theorem wakes_lead : Leads Tryz.prog 12 wakesS0 wakesS5 := ((part_keeps noNum extOk mixed wakes_p1 rfl).trans ((part_keeps noNum extOk mixed wakes_p2 rfl).trans ((part_keeps noNum extOk mixed wakes_p3 rfl).trans ((part_keeps noNum extOk mixed wakes_p4 rfl).trans (part_keeps noNum extOk mixed wakes_p5 rfl)))))
theorem wakes_enter : ∃ fr, enterA Tryz.prog 15 [] = some fr ∧ wakesS0 = { fr, cs := [], hp := heapOf varsOf0, nx := 12, lb := 0, wl := [] } := by
  have h : (enterA Tryz.prog 15 []).isSome = true := by kernel_rfl
  unfold wakesS0
  cases hq : enterA Tryz.prog 15 [] with
  | none => rw [hq] at h; cases h
  | some fr => exact ⟨fr, rfl, rfl⟩
/-- The call answers true in whatever world that holds the variables. -/
theorem wakes_true {σ : Sg} {w : World} (hL : ∀ p ∈ varsOf0, p.1 < 12) (hrel : Rel w.heap.size 12 σ (heapOf varsOf0) w) (hf : ∀ i, 12 ≤ i → σ i = none) :
    Calls Tryz.prog 15 #[] w fun e w' => e = .returned (.bool true) ∧ RowKit.Below w.heap.size w w' := by
  obtain ⟨fr, h1, h2⟩ := wakes_enter
  have hl := wakes_lead
  rw [h2] at hl
  refine true_parts (J := wakesJ) (n := 20000) (s1 := wakesS5) noNum extOk mixed h1 hL hl ?_ .nil hrel hf
  have he := wakes_end
  generalize run Tryz.prog 12 ext wakesJ 20000 wakesS5 = x at he ⊢
  exact he
end Go.Proofs.YtdkfmckbeagenaaGreatDoor

namespace Go.Proofs.YtdkfmckbeagenaaGreatDoor
open Go.Ex
theorem HeldAs.below {w w' : World} {B g : Nat} {l : List AV} (h : HeldAs w g l) (hb : RowKit.Below B w w') (hB : 12 ≤ B) : HeldAs w' g l := by
  have e : sg0 Tryz.prog w' 12 = sg0 Tryz.prog w 12 := by
    funext i
    unfold sg0
    by_cases hi : i < 12
    · rw [if_pos hi, if_pos hi, hb.block i (by omega)]
    · rw [if_neg hi, if_neg hi]
  obtain ⟨h1, c, tt, h2, h3, h4⟩ := h
  refine ⟨h1, c, tt, ?_, ?_, h4⟩
  · rw [hb.block g (by omega)]; exact h2
  · rw [e]; exact h3
theorem wakes16 {W : World} (hv : ∀ p ∈ varsOf0, HeldAs W p.1 p.2) (hG : 12 ≤ W.heap.size) : Wakes16 W := fun _ hb =>
  wakes_true (fun p hp => (hv p hp).1) (rel_vars fun p hp => (hv p hp).below hb hG) (fun i hi => by simp [sg0]; omega)
theorem size_of {W : World} (h : W.ShapedOpen Tryz.prog) : 12 ≤ W.heap.size := by
  obtain ⟨h1, _⟩ := h
  have hk : (((begin Tryz.prog (fun _ _ => 0) default).world.heap[11]?).bind Obj.row?).isSome = true := by kernel_rfl
  obtain ⟨⟨zero, t⟩, hz⟩ := Option.isSome_iff_exists.1 hk
  obtain ⟨cs, hcs, _⟩ := h1 11 zero t (by decide) hz
  exact (Array.getElem?_eq_some_iff.1 hcs).1
end Go.Proofs.YtdkfmckbeagenaaGreatDoor

namespace Go.Proofs.YtdkfmckbeagenaaGreatDoor
open Go.RowKit Go.FltLaw
theorem shapeOrder_walk (W : World) (n1 : Nat) (f1 : Flt) (v1 : Value) (h1 : FAt false W 0 W.heap.size n1 f1 v1) (n2 : Nat) (f2 : Flt) (v2 : Value) (h2 : FAt false W 0 W.heap.size n2 f2 v2) (hsh : W.ShapedOpen Tryz.prog) (hG : 12 ≤ W.heap.size) (hv : ∀ p ∈ varsOf0, HeldAs W p.1 p.2) :
    Calls Tryz.prog 5 #[v1, v2] W fun e w' => e = .returned (.bool true) ∧ Below W.heap.size W w' :=
  shapeOrder_walked W (wakes16 hv hG) (max n1 n2) f1 f2 v1 v2 (h1.up (Nat.le_max_left _ _)) (h2.up (Nat.le_max_right _ _)) (maxVar_of hsh) (Nat.lt_of_lt_of_le (by decide) hG)
end Go.Proofs.YtdkfmckbeagenaaGreatDoor
