/-
  filter.right of a part with pieces.
-/
import Derived.Test.YtdkfmckbeagenaaGreatDoorQB2
namespace Go.Proofs.YtdkfmckbeagenaaGreatDoor
open Go.RowKit Go.FltLaw Go.Lib

set_option maxHeartbeats 6400000 in
set_option maxRecDepth 100000 in
theorem right_part (KA : Option Addr) (kn kc : Nat) (ds vl st : List UInt8) (MA : Option Addr) (ms : List (List UInt8)) (mn mc : Nat) (fn rl : List UInt8) (dn : Bool) (w : World) (hmn : ms.length = mn) (hm : TxtsAt w w.heap.size MA ms)
  (hv : MaxVar w) (hM : 1 < w.heap.size) (_f0 : kn * 144 ≤ 140737488351232) (f1 : ds.length < 4294967281) (f5 : rl.length < 4294967281) (f6 : mn * 16 ≤ 140737488351232) :
  Calls Tryz.prog 35 #[.agg #[.int .i8 4, .slice KA kn kc, .string ⟨ds.toArray⟩, .string ⟨vl.toArray⟩, .string ⟨st.toArray⟩, .slice MA mn mc, .string ⟨fn.toArray⟩, .string ⟨rl.toArray⟩, .bool dn]] w
   fun e w' => e = .returned (.bool (FltLaw.right 4 kn ds vl st ms fn rl dn)) ∧ Below w.heap.size w w' := by
 have HN := Lib.hid hmn
 have HM := Lib.hid hm
 clear hmn hm
 go_enter Tryz.func35, Tryz.ntmps35
 go_upto_region 2 with fail
 go_cut [4] (fun s4 w' => s4 = .bool (!st.isEmpty || !fn.isEmpty || decide (0 < mn)) ∧ w' = w.alloc (.cells #[.int .i8 4, .slice KA kn kc, .string ⟨ds.toArray⟩, .string ⟨vl.toArray⟩, .string ⟨st.toArray⟩, .slice MA mn mc, .string ⟨fn.toArray⟩, .string ⟨rl.toArray⟩, .bool dn] 26))
 case first =>
  cases st <;> cases fn
  all_goals
   go_wp2_with fail
   go_meet
   case rel => exact ⟨bool_val (by simp), rfl⟩
 case rest =>
  obtain ⟨rfl, rfl⟩ := hcut
  go_upto_region 3 with fail
  go_cut [5] (fun s5 w' => s5 = .bool (!rl.isEmpty || dn) ∧ w' = w.alloc (.cells #[.int .i8 4, .slice KA kn kc, .string ⟨ds.toArray⟩, .string ⟨vl.toArray⟩, .string ⟨st.toArray⟩, .slice MA mn mc, .string ⟨fn.toArray⟩, .string ⟨rl.toArray⟩, .bool dn] 26))
  case first =>
   cases rl
   all_goals
    go_wp2_with fail
    go_meet
    case rel => exact ⟨bool_val (by simp), rfl⟩
  case rest =>
   obtain ⟨rfl, rfl⟩ := hcut
   generalize hP : (!st.isEmpty || !fn.isEmpty || decide (0 < mn)) = P
   generalize hR : (!rl.isEmpty || dn) = R
   have HP := Lib.hid hP
   have HR := Lib.hid hR
   have hvo : ∀ o, MaxVar (w.alloc o) := fun o => hv.below ((Below.refl _ _).alloc (Nat.le_refl _) o) hM
   have HV := Lib.hid hvo
   have hbo : ∀ o, Below w.heap.size w (w.alloc o) := fun o => (Below.refl _ _).alloc (Nat.le_refl _) o
   have HB := Lib.hid hbo
   clear hP hR hvo hbo
   go_wp2_with fail
   go_loop [116] (fun i => ∃ j : Nat, j ≤ mn ∧ i = .int .i64 j ∧ (ms.take j).all (fun m => !m.isEmpty) = true) (fun i => mn - (RowKit.intOf i).toNat)
   case atStart => exact ⟨0, Nat.zero_le _, rfl, rfl⟩
   case round =>
    obtain ⟨j, hj, rfl, hall⟩ := hrel
    have HA := Lib.hid hall
    clear hall
    by_cases hlt : j < mn
    ·have hlt' : j < ms.length := by have := HN.out; omega
     obtain ⟨ad, rfl, hb, hcell⟩ := HM.out (by omega)
     have hc : ∀ o, (w.alloc o).cell? (ad.add j) = some (.string ⟨ms[j].toArray⟩) := fun o => (World.cell?_alloc_lt w o (ad.add j) (by rw [RankLaw.add_block]; exact hb)).trans (hcell j _ (List.getElem?_eq_getElem hlt'))
     clear hcell
     generalize hq : ms[j] = q at hc
     have HQ := Lib.hid hq
     clear hq
     cases q with
     | nil =>
      go_wp2_with fail
      go_ret
      go_light
      refine ⟨ret_bool ?_, HB.out _⟩
      rw [right_PR HN.out HP.out HR.out]
      have hs : ms.all (fun m => !m.isEmpty) = false := rows_stop hlt' (by rw [HQ.out]; rfl)
      simp [hs]
     | cons b q =>
      go_wp2_with fail
      go_round
      case rel => exact ⟨j + 1, by omega, by go_num, by rw [rows_take HA.out hlt', HQ.out]; rfl⟩
      case measure => simp [RowKit.intOf]; omega
    ·have hall : ms.all (fun m => !m.isEmpty) = true := by
      have := HA.out
      rwa [List.take_of_length_le (by have := HN.out; omega)] at this
     have HL := Lib.hid hall
     clear hall
     go_wp2_with (first
      | (go_at_call 54; (with_reducible refine (desc_x ds _ (by omega) (HV.out _) (by simp; omega)).mono ?_); rintro e w1 ⟨x, HX, rfl, hb1⟩; have hc7 : w1.cell? ⟨w.heap.size, 7, none⟩ = some (.string ⟨rl.toArray⟩) := (hb1.cell (p := ⟨w.heap.size, 7, none⟩) (by simp)).trans (by simp); have HV1 := Lib.hid ((HV.out _).below hb1 (by simp; omega)); have hb1' := Lib.hid ((HB.out _).trans (hb1.mono (by simp))); have hz1 : w.heap.size < w1.heap.size := (by have := hb1.size; simp at this; omega); clear hb1))
     all_goals
      go_ret
      go_light
      (try have hx := HX.out)
      have hl := HL.out
      refine ⟨ret_bool ?_, ?_⟩
      ·rw [right_PR HN.out HP.out HR.out, hl]
       simp only [Bool.not_eq_true] at *
       simp [*]
       (try omega)
      ·first | exact hb1'.out | exact HB.out _
end Go.Proofs.YtdkfmckbeagenaaGreatDoor
