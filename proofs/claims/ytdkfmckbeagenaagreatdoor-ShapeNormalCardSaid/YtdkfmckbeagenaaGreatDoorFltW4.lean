/-
  filter.right: may a part be, its kids left aside? (Of parts without pieces.)
-/
import Derived.Test.YtdkfmckbeagenaaGreatDoorQB2
namespace Go.Proofs.YtdkfmckbeagenaaGreatDoor
open Go.RowKit Go.FltLaw Go.Lib

set_option maxHeartbeats 6400000 in
set_option maxRecDepth 100000 in
theorem right_other (k : Int) (hk4 : (k == 4) = false) (KA : Option Addr) (kn kc : Nat) (ds vl st : List UInt8) (MA : Option Addr) (ms : List (List UInt8)) (mn mc : Nat) (fn rl : List UInt8) (dn : Bool) (w : World) (hmn : ms.length = mn) (hm : TxtsAt w w.heap.size MA ms)
  (hv : MaxVar w) (hM : 1 < w.heap.size) (hk0 : -128 ≤ k) (hk1 : k ≤ 127) (_f0 : kn * 144 ≤ 140737488351232) (f1 : ds.length < 4294967281) (f5 : rl.length < 4294967281) (_f6 : mn * 16 ≤ 140737488351232) :
  Calls Tryz.prog 35 #[.agg #[.int .i8 k, .slice KA kn kc, .string ⟨ds.toArray⟩, .string ⟨vl.toArray⟩, .string ⟨st.toArray⟩, .slice MA mn mc, .string ⟨fn.toArray⟩, .string ⟨rl.toArray⟩, .bool dn]] w
   fun e w' => e = .returned (.bool (FltLaw.right k kn ds vl st ms fn rl dn)) ∧ Below w.heap.size w w' := by
 have HN := Lib.hid hmn
 have HM := Lib.hid hm
 clear hmn hm
 go_enter Tryz.func35, Tryz.ntmps35
 go_upto_region 2 with fail
 go_cut [4] (fun s4 w' => s4 = .bool (!st.isEmpty || !fn.isEmpty || decide (0 < mn)) ∧ w' = w.alloc (.cells #[.int .i8 k, .slice KA kn kc, .string ⟨ds.toArray⟩, .string ⟨vl.toArray⟩, .string ⟨st.toArray⟩, .slice MA mn mc, .string ⟨fn.toArray⟩, .string ⟨rl.toArray⟩, .bool dn] 26))
 case first =>
  cases st <;> cases fn
  all_goals
   go_wp2_with fail
   go_meet
   case rel => exact ⟨bool_val (by simp), rfl⟩
 case rest =>
  obtain ⟨rfl, rfl⟩ := hcut
  go_upto_region 3 with fail
  go_cut [5] (fun s5 w' => s5 = .bool (!rl.isEmpty || dn) ∧ w' = w.alloc (.cells #[.int .i8 k, .slice KA kn kc, .string ⟨ds.toArray⟩, .string ⟨vl.toArray⟩, .string ⟨st.toArray⟩, .slice MA mn mc, .string ⟨fn.toArray⟩, .string ⟨rl.toArray⟩, .bool dn] 26))
  case first =>
   cases rl
   all_goals
    go_wp2_with fail
    go_meet
    case rel => exact ⟨bool_val (by simp), rfl⟩
  case rest =>
   obtain ⟨rfl, rfl⟩ := hcut
   generalize hP : (!st.isEmpty || !fn.isEmpty || decide (0 < mn)) = P
   generalize hR : (!rl.isEmpty || dn) = R
   have HP := Lib.hid hP
   have HR := Lib.hid hR
   have hvo : ∀ o, MaxVar (w.alloc o) := fun o => hv.below ((Below.refl _ _).alloc (Nat.le_refl _) o) hM
   have HV := Lib.hid hvo
   have hbo : ∀ o, Below w.heap.size w (w.alloc o) := fun o => (Below.refl _ _).alloc (Nat.le_refl _) o
   have HB := Lib.hid hbo
   clear hP hR hvo hbo
   go_wp2_with (first
    | (go_at_call 54; (with_reducible refine (desc_x ds _ (by omega) (HV.out _) (by simp; omega)).mono ?_); rintro e w1 ⟨x, HX, rfl, hb1⟩; have hc7 : w1.cell? ⟨w.heap.size, 7, none⟩ = some (.string ⟨rl.toArray⟩) := (hb1.cell (p := ⟨w.heap.size, 7, none⟩) (by simp)).trans (by simp); have HV1 := Lib.hid ((HV.out _).below hb1 (by simp; omega)); have hb1' := Lib.hid ((HB.out _).trans (hb1.mono (by simp))); have hz1 : w.heap.size < w1.heap.size := (by have := hb1.size; simp at this; omega); clear hb1)
    | (go_at_call 55; (with_reducible refine (word_x rl _ (by omega) (by first | exact HV1.out | exact HV.out _)).mono ?_); rintro e w2 ⟨x2, HX2, rfl, hb2⟩; have hc7' : w2.cell? ⟨w.heap.size, 7, none⟩ = some (.string ⟨rl.toArray⟩) := (by first | exact (hb2.cell (p := ⟨w.heap.size, 7, none⟩) (by simp)).trans (by simp) | exact (hb2.cell (p := ⟨w.heap.size, 7, none⟩) hz1).trans hc7); have hb2' := Lib.hid (show Below w.heap.size w w2 by first | exact (HB.out _).trans (hb2.mono (by simp)) | exact hb1'.out.trans (hb2.mono (by omega))); clear hb2)
    | (go_at_call 56; (with_reducible refine (lower_p rl _ (by omega) (HX2.out.trans (by assumption))).mono ?_); rintro e w3 ⟨rfl, hb3⟩; have hb3' := Lib.hid (show Below w.heap.size w w3 from hb2'.out.trans (hb3.mono (by have := hb2'.out.size; omega)))))
   all_goals
    go_ret
    go_light
    (try have hx := HX.out)
    (try have hx2 := HX2.out)
    refine ⟨ret_bool ?_, ?_⟩
    ·rw [right_PR HN.out HP.out HR.out]
     (try unfold isDn)
     simp only [beq_iff_eq, beq_eq_false_iff_ne, ne_eq, Bool.not_eq_true] at *
     (try subst k)
     simp [*]
     (try omega)
    ·first | exact hb3'.out | exact hb2'.out | exact hb1'.out | exact HB.out _
end Go.Proofs.YtdkfmckbeagenaaGreatDoor
