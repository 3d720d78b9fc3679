/-
  rosterref09.fields: is a part one of those that may be? (Neither pieces nor a rule.).
-/
import Derived.Test.YtdkfmckbeagenaaGreatDoorQC1
import Derived.Test.YtdkfmckbeagenaaGreatDoorQB2
namespace Go.Proofs.YtdkfmckbeagenaaGreatDoor
open Go.RowKit Go.FltLaw Go.Lib Go.Deep

set_option maxHeartbeats 6400000 in
set_option maxRecDepth 100000 in
theorem fields_other (k : Int) (hk4 : (k == 4) = false) (hk9 : (k == 9) = false) (hk0 : -128 ≤ k) (hk1 : k ≤ 127) (KA : Option Addr) (kn kc : Nat) (ds vl st : List UInt8) (MA : Option Addr) (ms : List (List UInt8)) (mn mc : Nat) (fn rl : List UInt8) (dn : Bool) (w : World) (hmn : ms.length = mn) (hm : TxtsAt w w.heap.size MA ms)
  (_f0 : kn * 144 ≤ 140737488351232) (f1 : ds.length < 4294967281) (f5 : rl.length < 4294967281) (_f6 : mn * 16 ≤ 140737488351232) :
  Calls Tryz.prog 58 #[.agg #[.int .i8 k, .slice KA kn kc, .string ⟨ds.toArray⟩, .string ⟨vl.toArray⟩, .string ⟨st.toArray⟩, .slice MA mn mc, .string ⟨fn.toArray⟩, .string ⟨rl.toArray⟩, .bool dn]] w
   fun e w' => e = .returned (.bool (FltLaw.right k kn ds vl st ms fn rl dn)) ∧ Below w.heap.size w w' := by
 have HN := Lib.hid hmn
 have HM := Lib.hid hm
 clear hmn hm
 go_enter Tryz.func58, Tryz.ntmps58
 go_upto_region 1 with fail
 go_cut [3] (fun s3 w' => s3 = .bool (!st.isEmpty || !fn.isEmpty || decide (0 < mn)) ∧ w' = w.alloc (.cells #[.int .i8 k, .slice KA kn kc, .string ⟨ds.toArray⟩, .string ⟨vl.toArray⟩, .string ⟨st.toArray⟩, .slice MA mn mc, .string ⟨fn.toArray⟩, .string ⟨rl.toArray⟩, .bool dn] 26))
 case first =>
  rcases Nat.eq_zero_or_pos mn with rfl | hmn0 <;> cases st <;> cases fn
  all_goals
   go_wp2_with fail
   go_meet
   case rel => exact ⟨bool_val (by simp [*]), rfl⟩
 case rest =>
  obtain ⟨rfl, rfl⟩ := hcut
  go_upto_region 2 with fail
  go_cut [4] (fun s4 w' => s4 = .bool (!rl.isEmpty || dn) ∧ w' = w.alloc (.cells #[.int .i8 k, .slice KA kn kc, .string ⟨ds.toArray⟩, .string ⟨vl.toArray⟩, .string ⟨st.toArray⟩, .slice MA mn mc, .string ⟨fn.toArray⟩, .string ⟨rl.toArray⟩, .bool dn] 26))
  case first =>
   cases rl
   all_goals
    go_wp2_with fail
    go_meet
    case rel => exact ⟨bool_val (by simp), rfl⟩
  case rest =>
   obtain ⟨rfl, rfl⟩ := hcut
   generalize hP : (!st.isEmpty || !fn.isEmpty || decide (0 < mn)) = P
   generalize hR : (!rl.isEmpty || dn) = R
   have HP := Lib.hid hP
   have HR := Lib.hid hR
   have hbo : ∀ o, Below w.heap.size w (w.alloc o) := fun o => (Below.refl _ _).alloc (Nat.le_refl _) o
   have HB := Lib.hid hbo
   clear hP hR hbo
   go_wp2_with (first
    | (go_at_call 88; (with_reducible refine (desc_r ds _ (by omega)).mono ?_); rintro e w1 ⟨x, HX, rfl, rfl⟩))
   all_goals
    go_ret
    go_light
    (try have hx := HX.out)
    (try have hx2 := HX2.out)
    refine ⟨ret_bool ?_, ?_⟩
    ·rw [right_PR HN.out HP.out HR.out]
     (try unfold isDn)
     simp only [beq_iff_eq, beq_eq_false_iff_ne, ne_eq, Bool.not_eq_true] at *
     (try subst k)
     simp [*]
     (try omega)
    ·first | exact hb3'.out | exact HB.out _
end Go.Proofs.YtdkfmckbeagenaaGreatDoor
