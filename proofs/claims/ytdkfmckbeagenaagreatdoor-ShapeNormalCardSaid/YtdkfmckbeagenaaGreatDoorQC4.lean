/-
  rosterref09.fields: a part with pieces.
 rosterref09.long, rosterref09.fields of whatever part.
-/
import Derived.Test.YtdkfmckbeagenaaGreatDoorQC1
import Derived.Test.YtdkfmckbeagenaaGreatDoorQB2
import Derived.Test.YtdkfmckbeagenaaGreatDoorFltR5
import Derived.Test.YtdkfmckbeagenaaGreatDoorFltR6
namespace Go.Proofs.YtdkfmckbeagenaaGreatDoor
open Go.RowKit Go.FltLaw Go.Lib Go.Deep

set_option maxHeartbeats 6400000 in
set_option maxRecDepth 100000 in
theorem fields_part (KA : Option Addr) (kn kc : Nat) (ds vl st : List UInt8) (MA : Option Addr) (ms : List (List UInt8)) (mn mc : Nat) (fn rl : List UInt8) (dn : Bool) (w : World) (hmn : ms.length = mn) (hm : TxtsAt w w.heap.size MA ms)
  (_f0 : kn * 144 ≤ 140737488351232) (f1 : ds.length < 4294967281) (f5 : rl.length < 4294967281) (f6 : mn * 16 ≤ 140737488351232) :
  Calls Tryz.prog 58 #[.agg #[.int .i8 4, .slice KA kn kc, .string ⟨ds.toArray⟩, .string ⟨vl.toArray⟩, .string ⟨st.toArray⟩, .slice MA mn mc, .string ⟨fn.toArray⟩, .string ⟨rl.toArray⟩, .bool dn]] w
   fun e w' => e = .returned (.bool (FltLaw.right 4 kn ds vl st ms fn rl dn)) ∧ Below w.heap.size w w' := by
 have HN := Lib.hid hmn
 have HM := Lib.hid hm
 clear hmn hm
 go_enter Tryz.func58, Tryz.ntmps58
 go_upto_region 1 with fail
 go_cut [3] (fun s3 w' => s3 = .bool (!st.isEmpty || !fn.isEmpty || decide (0 < mn)) ∧ w' = w.alloc (.cells #[.int .i8 4, .slice KA kn kc, .string ⟨ds.toArray⟩, .string ⟨vl.toArray⟩, .string ⟨st.toArray⟩, .slice MA mn mc, .string ⟨fn.toArray⟩, .string ⟨rl.toArray⟩, .bool dn] 26))
 case first =>
  rcases Nat.eq_zero_or_pos mn with rfl | hmn0 <;> cases st <;> cases fn
  all_goals
   go_wp2_with fail
   go_meet
   case rel => exact ⟨bool_val (by simp [*]), rfl⟩
 case rest =>
  obtain ⟨rfl, rfl⟩ := hcut
  go_upto_region 2 with fail
  go_cut [4] (fun s4 w' => s4 = .bool (!rl.isEmpty || dn) ∧ w' = w.alloc (.cells #[.int .i8 4, .slice KA kn kc, .string ⟨ds.toArray⟩, .string ⟨vl.toArray⟩, .string ⟨st.toArray⟩, .slice MA mn mc, .string ⟨fn.toArray⟩, .string ⟨rl.toArray⟩, .bool dn] 26))
  case first =>
   cases rl
   all_goals
    go_wp2_with fail
    go_meet
    case rel => exact ⟨bool_val (by simp), rfl⟩
  case rest =>
   obtain ⟨rfl, rfl⟩ := hcut
   generalize hP : (!st.isEmpty || !fn.isEmpty || decide (0 < mn)) = P
   generalize hR : (!rl.isEmpty || dn) = R
   have HP := Lib.hid hP
   have HR := Lib.hid hR
   have hbo : ∀ o, Below w.heap.size w (w.alloc o) := fun o => (Below.refl _ _).alloc (Nat.le_refl _) o
   have HB := Lib.hid hbo
   clear hP hR hbo
   go_wp2_with fail
   go_loop [5] (fun i => ∃ j : Nat, j ≤ mn ∧ i = .int .i64 j ∧ (ms.take j).all (fun m => !m.isEmpty) = true) (fun i => mn - (RowKit.intOf i).toNat)
   case atStart => exact ⟨0, Nat.zero_le _, rfl, rfl⟩
   case round =>
    obtain ⟨j, hj, rfl, hall⟩ := hrel
    have HA := Lib.hid hall
    clear hall
    by_cases hlt : j < mn
    ·have hlt' : j < ms.length := by have := HN.out; omega
     obtain ⟨ad, rfl, hb, hcell⟩ := HM.out (by omega)
     have hc : ∀ o, (w.alloc o).cell? (ad.add j) = some (.string ⟨ms[j].toArray⟩) := fun o => (World.cell?_alloc_lt w o (ad.add j) (by rw [RankLaw.add_block]; exact hb)).trans (hcell j _ (List.getElem?_eq_getElem hlt'))
     clear hcell
     generalize hq : ms[j] = q at hc
     have HQ := Lib.hid hq
     clear hq
     cases q with
     | nil =>
      go_wp2_with fail
      go_ret
      go_light
      refine ⟨ret_bool ?_, HB.out _⟩
      rw [right_PR HN.out HP.out HR.out]
      have hs : ms.all (fun m => !m.isEmpty) = false := rows_stop hlt' (by rw [HQ.out]; rfl)
      simp [hs]
     | cons b q =>
      go_wp2_with fail
      go_round
      case rel => exact ⟨j + 1, by omega, by go_num, by rw [rows_take HA.out hlt', HQ.out]; rfl⟩
      case measure => simp [RowKit.intOf]; omega
    ·have hall : ms.all (fun m => !m.isEmpty) = true := by
      have := HA.out
      rwa [List.take_of_length_le (by have := HN.out; omega)] at this
     have HL := Lib.hid hall
     clear hall
     go_wp2_with (first
      | (go_at_call 88; (with_reducible refine (desc_r ds _ (by omega)).mono ?_); rintro e w1 ⟨x, HX, rfl, rfl⟩))
     all_goals
      go_ret
      go_light
      (try have hx := HX.out)
      have hl := HL.out
      refine ⟨ret_bool ?_, HB.out _⟩
      rw [right_PR HN.out HP.out HR.out, hl]
      simp only [Bool.not_eq_true] at *
      simp [*]
      (try omega)
end Go.Proofs.YtdkfmckbeagenaaGreatDoor

namespace Go.Proofs.YtdkfmckbeagenaaGreatDoor
open Go.RowKit Go.FltLaw Go.Lib

theorem fields_r (k : Int) (KA : Option Addr) (kn kc : Nat) (ds vl st : List UInt8) (MA : Option Addr) (ms : List (List UInt8)) (mn mc : Nat) (fn rl : List UInt8) (dn : Bool) (w : World) (hmn : ms.length = mn) (hm : TxtsAt w w.heap.size MA ms)
  (hk0 : -128 ≤ k) (hk1 : k ≤ 127) (f0 : kn * 144 ≤ 140737488351232) (f1 : ds.length < 4294967281) (f5 : rl.length < 4294967281) (f6 : mn * 16 ≤ 140737488351232) :
  Calls Tryz.prog 58 #[.agg #[.int .i8 k, .slice KA kn kc, .string ⟨ds.toArray⟩, .string ⟨vl.toArray⟩, .string ⟨st.toArray⟩, .slice MA mn mc, .string ⟨fn.toArray⟩, .string ⟨rl.toArray⟩, .bool dn]] w
   fun e w' => e = .returned (.bool (FltLaw.right k kn ds vl st ms fn rl dn)) ∧ Below w.heap.size w w' := by
 by_cases h : k = 4
 ·subst h
  exact fields_part KA kn kc ds vl st MA ms mn mc fn rl dn w hmn hm f0 f1 f5 f6
 ·by_cases h9 : k = 9
  ·subst h9
   exact fields_rule KA kn kc ds vl st MA ms mn mc fn rl dn w hmn hm f0 f1 f5 f6
  ·exact fields_other k (by simpa using h) (by simpa using h9) hk0 hk1 KA kn kc ds vl st MA ms mn mc fn rl dn w hmn hm f0 f1 f5 f6
theorem long_hit {ds vl st : List UInt8} {ms : List (List UInt8)} {fn rl : List UInt8} {j : Nat} (hj : j < ms.length) (h : 65536 < ms[j].length) : FltLaw.long ds vl st ms fn rl = true := by
 unfold FltLaw.long
 have : ms.any (fun m => decide (65536 < m.length)) = true := List.any_eq_true.2 ⟨ms[j], List.getElem_mem _, by simpa using h⟩
 rw [this]; simp
theorem long_miss {ms : List (List UInt8)} {j : Nat} (ha : (ms.take j).any (fun m => decide (65536 < m.length)) = false) (hj : j < ms.length) (h : ¬ 65536 < ms[j].length) : (ms.take (j + 1)).any (fun m => decide (65536 < m.length)) = false := by
 rw [List.take_succ_eq_append_getElem hj, List.any_append, ha]
 simpa using h
set_option maxHeartbeats 1600000 in
set_option maxRecDepth 100000 in
theorem long_r (k : Int) (KA : Option Addr) (kn kc : Nat) (ds vl st : List UInt8) (MA : Option Addr) (ms : List (List UInt8)) (mn mc : Nat) (fn rl : List UInt8) (dn : Bool) (w : World) (hmn : ms.length = mn) (hm : TxtsAt w w.heap.size MA ms)
  (f1 : ds.length ≤ 140737488351232) (f2 : vl.length ≤ 140737488351232) (f3 : st.length ≤ 140737488351232) (f4 : fn.length ≤ 140737488351232) (f5 : rl.length ≤ 140737488351232) (f6 : mn * 16 ≤ 140737488351232) (f7 : ∀ m ∈ ms, m.length ≤ 140737488351232) :
  Calls Tryz.prog 57 #[.agg #[.int .i8 k, .slice KA kn kc, .string ⟨ds.toArray⟩, .string ⟨vl.toArray⟩, .string ⟨st.toArray⟩, .slice MA mn mc, .string ⟨fn.toArray⟩, .string ⟨rl.toArray⟩, .bool dn]] w
   fun e w' => e = .returned (.bool (FltLaw.long ds vl st ms fn rl)) ∧ Below w.heap.size w w' := by
 have F7 := Lib.hid f7
 have HN := Lib.hid hmn
 have HM := Lib.hid hm
 clear f7 hmn hm
 go_enter Tryz.func57, Tryz.ntmps57
 go_wp2_with fail
 go_loop [3] (fun i => ∃ j : Nat, j ≤ mn ∧ i = .int .i64 j ∧ (ms.take j).any (fun m => decide (65536 < m.length)) = false) (fun i => mn - (RowKit.intOf i).toNat)
 case atStart => exact ⟨0, Nat.zero_le _, rfl, rfl⟩
 case round =>
  obtain ⟨j, hj, rfl, hall⟩ := hrel
  have HA := Lib.hid hall
  clear hall
  by_cases hlt : j < mn
  ·have hlt' : j < ms.length := by have := HN.out; omega
   obtain ⟨ad, rfl, hb, hcell⟩ := HM.out (by omega)
   have hc : ∀ o, (w.alloc o).cell? (ad.add j) = some (.string ⟨ms[j].toArray⟩) := fun o => (World.cell?_alloc_lt w o (ad.add j) (by rw [RankLaw.add_block]; exact hb)).trans (hcell j _ (List.getElem?_eq_getElem hlt'))
   have hq := F7.out _ (List.getElem_mem hlt')
   clear hcell
   go_wp2_with fail
   ·have g : 65536 < (ms[j].length : Int) := by assumption
    go_ret
    exact ⟨ret_bool (by rw [long_hit hlt' (by omega)]), (Below.refl _ _).alloc (Nat.le_refl _) _⟩
   ·have g : ¬ 65536 < (ms[j].length : Int) := by first | assumption | (have g2 : (ms[j].length : Int) ≤ 65536 := (by assumption); omega)
    go_round
    case rel => exact ⟨j + 1, by omega, by go_num, long_miss HA.out hlt' (by omega)⟩
    case measure => simp [RowKit.intOf]; omega
  ·have ek : (ms.any (fun m => decide (65536 < m.length))) = false := by
    have := HA.out
    rwa [List.take_of_length_le (by have := HN.out; omega)] at this
   have HE := Lib.hid ek
   clear ek
   go_wp2_with fail
   all_goals
    go_ret
    go_light
    refine ⟨ret_bool ?_, (Below.refl _ _).alloc (Nat.le_refl _) _⟩
    unfold FltLaw.long
    rw [HE.out]
    simp
    omega
end Go.Proofs.YtdkfmckbeagenaaGreatDoor
