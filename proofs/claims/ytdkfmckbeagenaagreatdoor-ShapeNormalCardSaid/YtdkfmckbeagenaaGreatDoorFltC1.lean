/-
  filter.sign, filter.compare: what they compute.
-/
import Derived.Test.YtdkfmckbeagenaaGreatDoorQA3
import Derived.Test.YtdkfmckbeagenaaGreatDoorQA2
import Derived.Test.YtdkfmckbeagenaaGreatDoorQB1
import Derived.Test.YtdkfmckbeagenaaGreatDoorProg
import Derived.Shelf.Small.Strs
import Derived.WalkKit
import Derived.Outline
import Derived.Lib.Hide
import Derived.OneCell
import Derived.Laws.Rows
import Derived.Deep.Cut
import Derived.Deep.DeepCutAuto
import Derived.RegionTactic
import Derived.BigRegion
import Derived.BigQuiet
import Derived.Deep.QuietTactic
import Derived.Deep.RegionWith
import Derived.Lib.QuietBelow
namespace Go.Proofs.YtdkfmckbeagenaaGreatDoor
open Go.RowKit Go.FltLaw Go.Lib Go.RankLaw

theorem txtcmp_p (a b : List UInt8) (w : World) : Calls Tryz.prog 65 #[.string ⟨a.toArray⟩, .string ⟨b.toArray⟩] w fun e w' => e = .returned (.int .i64 (num (txtCmp a b))) ∧ w' = w := by
 have h := Go.Proofs.Any.strings_Compare { l106 with } ⟨a.toArray⟩ ⟨b.toArray⟩ w
 refine h.mono fun e w' ⟨h1, h2⟩ => ⟨?_, h2⟩
 rw [h1, ← compare_txt]
theorem sign_p (n : Int) (w : World) : Calls Tryz.prog 64 #[.int .i64 n] w fun e w' => e = .returned (.int .i64 (sgn n)) ∧ Below w.heap.size w w' := by
 by_cases hn : n < 0
 ·go_enter Tryz.func64, Tryz.ntmps64
  go_wp2_with fail
  go_ret
  exact ⟨by unfold sgn; rw [if_pos hn]; rfl, Below.refl _ _⟩
 ·have hn' : 0 ≤ n := by omega
  have e : sgn n = min n 1 := by unfold sgn; rw [if_neg hn]
  clear hn
  go_enter Tryz.func64, Tryz.ntmps64
  go_wp2_with fail
  go_ret
  exact ⟨by rw [e]; rfl, Below.refl _ _⟩
structure Pair (w wr : World) (bg bf : Array Value) : Prop where
 below : Below w.heap.size w wr
 gb : wr.heap[w.heap.size]? = some (.cells bg 26 (0, 0))
 fb : wr.heap[w.heap.size + 1]? = some (.cells bf 26 (0, 0))
theorem pair_start (w : World) (bg bf : Array Value) : Pair w ((w.alloc (.cells bg 26)).alloc (.cells bf 26)) bg bf :=
 ⟨((Below.refl _ _).alloc (Nat.le_refl _) _).alloc (by simp) _, heap_alloc2_old _ _ _, heap_alloc2_new _ _ _⟩
theorem Pair.size {w wr : World} {bg bf : Array Value} (h : Pair w wr bg bf) : w.heap.size + 2 ≤ wr.heap.size := by
 have h2 := (Array.getElem?_eq_some_iff.1 h.fb).1
 omega
theorem Pair.later {w wr w2 : World} {bg bf : Array Value} (h : Pair w wr bg bf) (hb : Below (w.heap.size + 2) wr w2) : Pair w w2 bg bf := by
 have := h.size
 exact ⟨h.below.trans (hb.mono (by omega)), by rw [hb.block _ (by omega)]; exact h.gb, by rw [hb.block _ (by omega)]; exact h.fb⟩
theorem Pair.nine {w wr : World} {a0 a1 a2 a3 a4 a5 a6 a7 a8 b0 b1 b2 b3 b4 b5 b6 b7 b8 : Value} (h : Pair w wr #[a0, a1, a2, a3, a4, a5, a6, a7, a8] #[b0, b1, b2, b3, b4, b5, b6, b7, b8]) :
  (wr.cell? ⟨w.heap.size, 0, none⟩ = some a0 ∧ wr.cell? ⟨w.heap.size, 1, none⟩ = some a1 ∧ wr.cell? ⟨w.heap.size, 2, none⟩ = some a2 ∧ wr.cell? ⟨w.heap.size, 3, none⟩ = some a3 ∧ wr.cell? ⟨w.heap.size, 4, none⟩ = some a4 ∧ wr.cell? ⟨w.heap.size, 5, none⟩ = some a5 ∧
   wr.cell? ⟨w.heap.size, 6, none⟩ = some a6 ∧ wr.cell? ⟨w.heap.size, 7, none⟩ = some a7 ∧ wr.cell? ⟨w.heap.size, 8, none⟩ = some a8) ∧
  wr.cell? ⟨w.heap.size + 1, 0, none⟩ = some b0 ∧ wr.cell? ⟨w.heap.size + 1, 1, none⟩ = some b1 ∧ wr.cell? ⟨w.heap.size + 1, 2, none⟩ = some b2 ∧ wr.cell? ⟨w.heap.size + 1, 3, none⟩ = some b3 ∧ wr.cell? ⟨w.heap.size + 1, 4, none⟩ = some b4 ∧ wr.cell? ⟨w.heap.size + 1, 5, none⟩ = some b5 ∧
   wr.cell? ⟨w.heap.size + 1, 6, none⟩ = some b6 ∧ wr.cell? ⟨w.heap.size + 1, 7, none⟩ = some b7 ∧ wr.cell? ⟨w.heap.size + 1, 8, none⟩ = some b8 := by
 simp [World.cell?, h.gb, h.fb]
structure Paired (w wr : World) (bg bf : Array Value) (t0 t1 t2 t3 t4 t5 : Value) : Prop where
 pr : Pair w wr bg bf
 tb : wr.heap[w.heap.size + 2]? = some (.cells #[t0, t1, t2, t3, t4, t5] 99 (0, 0))
theorem paired_start (w : World) (bg bf : Array Value) (t0 t1 t2 t3 t4 t5 : Value) : Paired w (((w.alloc (.cells bg 26)).alloc (.cells bf 26)).alloc (.cells #[t0, t1, t2, t3, t4, t5] 99)) bg bf t0 t1 t2 t3 t4 t5 :=
 ⟨(pair_start w bg bf).later ((Below.refl _ _).alloc (by simp) _), by
   have := heap_alloc_new ((w.alloc (.cells bg 26)).alloc (.cells bf 26)) (.cells #[t0, t1, t2, t3, t4, t5] 99)
   simpa using this⟩
theorem Paired.size {w wr : World} {bg bf : Array Value} {t0 t1 t2 t3 t4 t5 : Value} (h : Paired w wr bg bf t0 t1 t2 t3 t4 t5) : w.heap.size + 3 ≤ wr.heap.size := by
 have h2 := (Array.getElem?_eq_some_iff.1 h.tb).1
 omega
theorem Paired.later {w wr w2 : World} {bg bf : Array Value} {t0 t1 t2 t3 t4 t5 : Value} (h : Paired w wr bg bf t0 t1 t2 t3 t4 t5) (hb : Below (w.heap.size + 3) wr w2) : Paired w w2 bg bf t0 t1 t2 t3 t4 t5 := by
 have := h.size
 exact ⟨h.pr.later (hb.mono (by omega)), by rw [hb.block _ (by omega)]; exact h.tb⟩
theorem Paired.cells {w wr : World} {bg bf : Array Value} {t0 t1 t2 t3 t4 t5 : Value} (h : Paired w wr bg bf t0 t1 t2 t3 t4 t5) :
  wr.cell? ⟨w.heap.size + 2, 0, none⟩ = some t0 ∧ wr.cell? ⟨w.heap.size + 2, 1, none⟩ = some t1 ∧ wr.cell? ⟨w.heap.size + 2, 2, none⟩ = some t2 ∧ wr.cell? ⟨w.heap.size + 2, 3, none⟩ = some t3 ∧ wr.cell? ⟨w.heap.size + 2, 4, none⟩ = some t4 ∧ wr.cell? ⟨w.heap.size + 2, 5, none⟩ = some t5 := by
 simp [World.cell?, h.tb]
theorem below_dn {B : Nat} {a w : World} (h : Below B a w) (q : Nat) : Below B a (w.drewN q) := ⟨h.os, h.tape, h.output, h.size, h.block⟩
structure Texts (j : Nat) (ds ds' vl vl' st st' : List UInt8) : Prop where
 h0 : 0 < j → txtCmp ds ds' = .eq
 h1 : 1 < j → txtCmp vl vl' = .eq
 h2 : 2 < j → txtCmp st st' = .eq
def CmpEnd (f g : Flt) (w : World) (e : Ending) (w' : World) : Prop := e = .returned (.int .i64 (num (cmp f g))) ∧ Below w.heap.size w w'
set_option maxHeartbeats 3200000 in
set_option maxRecDepth 100000 in
theorem compare_p : ∀ (fuel : Nat) (f g : Flt) (vf vg : Value) (w : World) (B B' : Nat), FAt false w 0 B fuel f vf → FAt false w 0 B' fuel g vg → B ≤ w.heap.size → B' ≤ w.heap.size →
  Calls Tryz.prog 46 #[vf, vg] w (CmpEnd f g w) := by
 intro fuel
 induction fuel with
 | zero => intro f g vf vg w B B' h; exact h.elim
 | succ fuel ih =>
  intro f g vf vg w B B' hF hG hB hB'
  obtain ⟨k, ks, ds, vl, st, ms, fn, rl, dn⟩ := f
  obtain ⟨k', ks', ds', vl', st', ms', fn', rl', dn'⟩ := g
  obtain ⟨KA, kc, MA, mc, rfl, hfit, hmA, hkA, _⟩ := hF
  obtain ⟨KA', kc', MA', mc', rfl, hfit', hmA', hkA', _⟩ := hG
  have IH := Lib.hid ih
  have HM := Lib.hid hmA
  have HK := Lib.hid hkA
  have HM' := Lib.hid hmA'
  have HK' := Lib.hid hkA'
  have k0 := hfit.k0
  have k1 := hfit.k1
  have k0' := hfit'.k0
  have k1' := hfit'.k1
  have b1 := hfit.kn1
  have b2 := hfit.mn1
  have b1' := hfit'.kn1
  have b2' := hfit'.mn1
  have hst := Paired.cells (paired_start w #[.int .i8 k, .slice KA ks.length kc, .string ⟨ds.toArray⟩, .string ⟨vl.toArray⟩, .string ⟨st.toArray⟩, .slice MA ms.length mc, .string ⟨fn.toArray⟩, .string ⟨rl.toArray⟩, .bool dn] #[.int .i8 k', .slice KA' ks'.length kc', .string ⟨ds'.toArray⟩, .string ⟨vl'.toArray⟩, .string ⟨st'.toArray⟩, .slice MA' ms'.length mc', .string ⟨fn'.toArray⟩, .string ⟨rl'.toArray⟩, .bool dn']
   (.string ⟨ds.toArray⟩) (.string ⟨ds'.toArray⟩) (.string ⟨vl.toArray⟩) (.string ⟨vl'.toArray⟩) (.string ⟨st.toArray⟩) (.string ⟨st'.toArray⟩))
  clear ih hfit hfit' hmA hkA hmA' hkA' hst
  have hbb : ∀ o o', Below w.heap.size w ((w.alloc o).alloc o') := fun o o' => ((Below.refl _ w).alloc (Nat.le_refl _) o).alloc (by simp) o'
  have HBB := Lib.hid hbb
  have hps := paired_start w #[.int .i8 k, .slice KA ks.length kc, .string ⟨ds.toArray⟩, .string ⟨vl.toArray⟩, .string ⟨st.toArray⟩, .slice MA ms.length mc, .string ⟨fn.toArray⟩, .string ⟨rl.toArray⟩, .bool dn] #[.int .i8 k', .slice KA' ks'.length kc', .string ⟨ds'.toArray⟩, .string ⟨vl'.toArray⟩, .string ⟨st'.toArray⟩, .slice MA' ms'.length mc', .string ⟨fn'.toArray⟩, .string ⟨rl'.toArray⟩, .bool dn']
   (.string ⟨ds.toArray⟩) (.string ⟨ds'.toArray⟩) (.string ⟨vl.toArray⟩) (.string ⟨vl'.toArray⟩) (.string ⟨st.toArray⟩) (.string ⟨st'.toArray⟩)
  have HPS := Lib.hid hps
  clear hbb hps
  unfold flt
  by_cases hkk : k = k'
  ·subst hkk
   go_enter Tryz.func46, Tryz.ntmps46
   go_wp2_with fail
   go_loopw [44] (fun i wr => ∃ (j : Nat), j ≤ 3 ∧ i = .int .i64 j ∧ Texts j ds ds' vl vl' st st' ∧ Paired w wr #[.int .i8 k, .slice KA ks.length kc, .string ⟨ds.toArray⟩, .string ⟨vl.toArray⟩, .string ⟨st.toArray⟩, .slice MA ms.length mc, .string ⟨fn.toArray⟩, .string ⟨rl.toArray⟩, .bool dn] #[.int .i8 k, .slice KA' ks'.length kc', .string ⟨ds'.toArray⟩, .string ⟨vl'.toArray⟩, .string ⟨st'.toArray⟩, .slice MA' ms'.length mc', .string ⟨fn'.toArray⟩, .string ⟨rl'.toArray⟩, .bool dn']
     (.string ⟨ds.toArray⟩) (.string ⟨ds'.toArray⟩) (.string ⟨vl.toArray⟩) (.string ⟨vl'.toArray⟩) (.string ⟨st.toArray⟩) (.string ⟨st'.toArray⟩)) (fun i _ => 3 - (RowKit.intOf i).toNat)
   case atStart => exact ⟨0, by omega, rfl, ⟨fun h => by omega, fun h => by omega, fun h => by omega⟩, HPS.out⟩
   case round =>
    obtain ⟨j, hj, rfl, hT, hP⟩ := hrel
    have HT := Lib.hid hT
    have HP := Lib.hid hP
    clear hT hP
    have hj' : j = 0 ∨ j = 1 ∨ j = 2 ∨ j = 3 := by omega
    rcases hj' with rfl | rfl | rfl | rfl
    ·obtain ⟨c0, c1, c2, c3, c4, c5⟩ := HP.out.cells
     have hsz := HP.out.size
     have hal := fun o => HP.out.later ((Below.refl _ wr).alloc hsz o)
     have HAL := Lib.hid hal
     clear hal
     go_wp2_with (go_at_call 65; (with_reducible refine (txtcmp_p ds ds' _).mono ?_); rintro e w4 ⟨rfl, rfl⟩)
     ·have g : (num (txtCmp ds ds') != 0) = true := by assumption
      go_ret
      exact ⟨by rw [cmp_ds (fun e => by rw [e] at g; cases g)]; rfl, (HAL.out _).pr.below⟩
     ·have g : (num (txtCmp ds ds') != 0) = false := by assumption
      have hz : txtCmp ds ds' = .eq := num_zero.1 (by simpa using g)
      go_round
      case rel => exact ⟨1, by omega, by go_num, ⟨fun _ => hz, fun h => by omega, fun h => by omega⟩, HAL.out _⟩
      case measure => simp [RowKit.intOf]
    ·obtain ⟨c0, c1, c2, c3, c4, c5⟩ := HP.out.cells
     have hsz := HP.out.size
     have hal := fun o => HP.out.later ((Below.refl _ wr).alloc hsz o)
     have HAL := Lib.hid hal
     clear hal
     go_wp2_with (go_at_call 65; (with_reducible refine (txtcmp_p vl vl' _).mono ?_); rintro e w4 ⟨rfl, rfl⟩)
     ·have g : (num (txtCmp vl vl') != 0) = true := by assumption
      go_ret
      exact ⟨by rw [cmp_vl (HT.out.h0 (by omega)) (fun e => by rw [e] at g; cases g)]; rfl, (HAL.out _).pr.below⟩
     ·have g : (num (txtCmp vl vl') != 0) = false := by assumption
      have hz : txtCmp vl vl' = .eq := num_zero.1 (by simpa using g)
      go_round
      case rel => exact ⟨2, by omega, by go_num, ⟨fun _ => HT.out.h0 (by omega), fun _ => hz, fun h => by omega⟩, HAL.out _⟩
      case measure => simp [RowKit.intOf]
    ·obtain ⟨c0, c1, c2, c3, c4, c5⟩ := HP.out.cells
     have hsz := HP.out.size
     have hal := fun o => HP.out.later ((Below.refl _ wr).alloc hsz o)
     have HAL := Lib.hid hal
     clear hal
     go_wp2_with (go_at_call 65; (with_reducible refine (txtcmp_p st st' _).mono ?_); rintro e w4 ⟨rfl, rfl⟩)
     ·have g : (num (txtCmp st st') != 0) = true := by assumption
      go_ret
      exact ⟨by rw [cmp_st (HT.out.h0 (by omega)) (HT.out.h1 (by omega)) (fun e => by rw [e] at g; cases g)]; rfl, (HAL.out _).pr.below⟩
     ·have g : (num (txtCmp st st') != 0) = false := by assumption
      have hz : txtCmp st st' = .eq := num_zero.1 (by simpa using g)
      go_round
      case rel => exact ⟨3, by omega, by go_num, ⟨fun _ => HT.out.h0 (by omega), fun _ => HT.out.h1 (by omega), fun _ => hz⟩, HAL.out _⟩
      case measure => simp [RowKit.intOf]
    ·have e1 := HT.out.h0 (by omega)
     have e2 := HT.out.h1 (by omega)
     have e3 := HT.out.h2 (by omega)
     have E1 := Lib.hid e1
     have E2 := Lib.hid e2
     have E3 := Lib.hid e3
     have HPR := Lib.hid HP.out.pr
     clear HT e1 e2 e3 HP HPS
     obtain ⟨⟨a0, a1, a2, a3, a4, a5, a6, a7, a8⟩, d0, d1, d2, d3, d4, d5, d6, d7, d8⟩ := HPR.out.nine
     go_wp2_with fail
     go_loopw [64] (fun i wr => ∃ (j : Nat), j ≤ min ms.length ms'.length ∧ i = .int .i64 j ∧ Hid (LikeTo txtCmp ms ms' j) ∧ Pair w wr #[.int .i8 k, .slice KA ks.length kc, .string ⟨ds.toArray⟩, .string ⟨vl.toArray⟩, .string ⟨st.toArray⟩, .slice MA ms.length mc, .string ⟨fn.toArray⟩, .string ⟨rl.toArray⟩, .bool dn] #[.int .i8 k, .slice KA' ks'.length kc', .string ⟨ds'.toArray⟩, .string ⟨vl'.toArray⟩, .string ⟨st'.toArray⟩, .slice MA' ms'.length mc', .string ⟨fn'.toArray⟩, .string ⟨rl'.toArray⟩, .bool dn']) (fun i _ => min ms.length ms'.length - (RowKit.intOf i).toNat)
     case atStart => exact ⟨0, by omega, rfl, Lib.hid LikeTo.start, HPR.out⟩
     case round =>
      clear HPR a0 a1 a2 a3 a4 a5 a6 a7 a8 d0 d1 d2 d3 d4 d5 d6 d7 d8
      obtain ⟨j, hj, rfl, HA, hP⟩ := hrel
      have HP := Lib.hid hP
      obtain ⟨⟨a0, a1, a2, a3, a4, a5, a6, a7, a8⟩, d0, d1, d2, d3, d4, d5, d6, d7, d8⟩ := hP.nine
      have hb1 : Below B w _ := hP.below.mono hB
      have hb2 : Below B' w _ := hP.below.mono hB'
      clear hP
      by_cases hlt : j < min ms.length ms'.length
      ·obtain ⟨ad, rfl, _, hadB, hel⟩ := HM.out (by omega)
       obtain ⟨ad', rfl, _, hadB', hel'⟩ := HM'.out (by omega)
       have hke := List.getElem?_eq_getElem (l := ms) (i := j) (by omega)
       have hke' := List.getElem?_eq_getElem (l := ms') (i := j) (by omega)
       have HE := Lib.hid hke
       have HE' := Lib.hid hke'
       generalize ms[j] = q at hke HE
       generalize ms'[j] = q' at hke' HE'
       have m1 := (hb1.cell (p := ad.add j) (by rw [RankLaw.add_block]; exact hadB)).trans (hel j q hke)
       have m2 := (hb2.cell (p := ad'.add j) (by rw [RankLaw.add_block]; exact hadB')).trans (hel' j q' hke')
       unfold txt at m1 m2
       have hj2 : (j : Int) < min (ms.length : Int) (ms'.length : Int) := by omega
       have hj3 : decide ((ms.length : Int) ≤ (j : Int)) = false := by simp; omega
       have hj4 : decide (ms.length ≤ j) = false := by simp; omega
       have hj5 : decide ((ms'.length : Int) ≤ (j : Int)) = false := by simp; omega
       have hj6 : decide (ms'.length ≤ j) = false := by simp; omega
       clear hel hel' hke hke' hb1 hb2
       go_wp2_with fail
       go_quiet ((go_at_call 65; exact Calls.quiet_of_same (txtcmp_p q q' _)))
       go_wp2_with fail
       ·have g : (num (txtCmp q q') != 0) = true := by assumption
        have hne : txtCmp q q' ≠ .eq := fun e => by rw [e] at g; cases g
        have hd := HA.out.differ HE.out HE'.out hne
        go_ret
        exact ⟨by rw [cmp_ms E1.out E2.out E3.out (by rw [hd]; exact hne), hd]; rfl, below_dn HP.out.below _⟩
       ·have g : (num (txtCmp q q') != 0) = false := by assumption
        have hz : txtCmp q q' = .eq := num_zero.1 (by simpa using g)
        go_round
        case rel => exact ⟨j + 1, by omega, by go_num, Lib.hid (HA.out.step HE.out HE'.out hz), HP.out.later (below_dn (Below.refl _ _) _)⟩
        case measure => simp [RowKit.intOf]; omega
      ·have ej : j = min ms.length ms'.length := by omega
       have hlen := HA.out.done ej
       have HLEN := Lib.hid hlen
       clear hb1 hb2 hlen HA HM HM'
       by_cases hml : ms.length = ms'.length
       ·have e4 : lex txtCmp ms ms' = .eq := by rw [HLEN.out, hml]; simp
        have E4 := Lib.hid e4
        have hml' : (ms.length : Int) = (ms'.length : Int) := by omega
        clear e4
        go_upto_region 25 with (go_at_call 65; (with_reducible refine (txtcmp_p _ _ _).mono ?_); rintro e w4 ⟨rfl, rfl⟩)
        ·have g : (num (txtCmp fn fn') != 0) = true := by assumption
         have hne : txtCmp fn fn' ≠ .eq := fun e => by rw [e] at g; cases g
         go_wp2_with fail
         go_ret
         exact ⟨by rw [cmp_fn E1.out E2.out E3.out E4.out hne]; rfl, HP.out.below⟩
        ·have g : (num (txtCmp rl rl') != 0) = true := by assumption
         have g5 : (num (txtCmp fn fn') != 0) = false := by assumption
         have hne : txtCmp rl rl' ≠ .eq := fun e => by rw [e] at g; cases g
         go_wp2_with fail
         go_ret
         exact ⟨by rw [cmp_rl E1.out E2.out E3.out E4.out (num_zero.1 (by simpa using g5)) hne]; rfl, HP.out.below⟩
        ·have g6 : (num (txtCmp rl rl') != 0) = false := by assumption
         have g5 : (num (txtCmp fn fn') != 0) = false := by assumption
         have E5 : Hid (txtCmp fn fn' = .eq) := Lib.hid (num_zero.1 (by simpa using g5))
         have E6 : Hid (txtCmp rl rl' = .eq) := Lib.hid (num_zero.1 (by simpa using g6))
         simp only [g5, g6]
         clear g5 g6 hml hml'
         by_cases hdn : dn = dn'
         ·subst hdn
          have hks := cmp_ks (k := k) (ks := ks) (ks' := ks') (dn := dn) E1.out E2.out E3.out E4.out E5.out E6.out
          have HKS := Lib.hid hks
          clear hks E1 E2 E3 E4 E5 E6 HLEN
          go_wp2_with fail
          go_loopw [127] (fun i wr => ∃ (j : Nat), j ≤ min ks.length ks'.length ∧ i = .int .i64 j ∧ Hid (LikeTo cmp ks ks' j) ∧ Pair w wr #[.int .i8 k, .slice KA ks.length kc, .string ⟨ds.toArray⟩, .string ⟨vl.toArray⟩, .string ⟨st.toArray⟩, .slice MA ms.length mc, .string ⟨fn.toArray⟩, .string ⟨rl.toArray⟩, .bool dn] #[.int .i8 k, .slice KA' ks'.length kc', .string ⟨ds'.toArray⟩, .string ⟨vl'.toArray⟩, .string ⟨st'.toArray⟩, .slice MA' ms'.length mc', .string ⟨fn'.toArray⟩, .string ⟨rl'.toArray⟩, .bool dn]) (fun i _ => min ks.length ks'.length - (RowKit.intOf i).toNat)
          case atStart => exact ⟨0, by omega, rfl, Lib.hid LikeTo.start, HP.out⟩
          case round =>
           clear HP a0 a1 a2 a3 a4 a5 a6 a7 a8 d0 d1 d2 d3 d4 d5 d6 d7 d8
           obtain ⟨j, hj, rfl, HA, hP⟩ := hrel
           have HP := Lib.hid hP
           obtain ⟨⟨a0, a1, a2, a3, a4, a5, a6, a7, a8⟩, d0, d1, d2, d3, d4, d5, d6, d7, d8⟩ := hP.nine
           have hb1 : Below B w _ := hP.below.mono hB
           have hb2 : Below B' w _ := hP.below.mono hB'
           have hsz := hP.size
           clear hP
           by_cases hlt : j < min ks.length ks'.length
           ·obtain ⟨ad, rfl, _, hadB, hel⟩ := HK.out (by omega)
            obtain ⟨ad', rfl, _, hadB', hel'⟩ := HK'.out (by omega)
            have hke := List.getElem?_eq_getElem (l := ks) (i := j) (by omega)
            have hke' := List.getElem?_eq_getElem (l := ks') (i := j) (by omega)
            have HE := Lib.hid hke
            have HE' := Lib.hid hke'
            generalize ks[j] = q at hke HE
            generalize ks'[j] = q' at hke' HE'
            obtain ⟨fv, hfv, hcells⟩ := hel j _ hke
            obtain ⟨fv', hfv', hcells'⟩ := hel' j _ hke'
            have HFV := Lib.hid (hfv.below hb1)
            have HFV' := Lib.hid (hfv'.below hb2)
            obtain ⟨x0, x1, x2, x3, x4, x5, x6, x7, x8, rfl⟩ := (FAt.form hfv)
            obtain ⟨y0, y1, y2, y3, y4, y5, y6, y7, y8, rfl⟩ := (FAt.form hfv')
            obtain ⟨l0, l1, l2, l3, l4, l5, l6, l7, l8⟩ := nine_at (m := j * 9) (fun q u hu => (hb1.cell (p := ad.add (j * 9 + q)) (by rw [RankLaw.add_block]; exact hadB)).trans (hcells q u hu))
            obtain ⟨m0, m1, m2, m3, m4, m5, m6, m7, m8⟩ := nine_at (m := j * 9) (fun q u hu => (hb2.cell (p := ad'.add (j * 9 + q)) (by rw [RankLaw.add_block]; exact hadB')).trans (hcells' q u hu))
            have hj2 : (j : Int) < min (ks.length : Int) (ks'.length : Int) := by omega
            have hj3 : decide ((ks.length : Int) ≤ (j : Int)) = false := by simp; omega
            have hj4 : decide (ks.length ≤ j) = false := by simp; omega
            have hj5 : decide ((ks'.length : Int) ≤ (j : Int)) = false := by simp; omega
            have hj6 : decide (ks'.length ≤ j) = false := by simp; omega
            clear hel hel' hke hke' hb1 hb2 hfv hfv' hcells hcells'
            go_upto_region 32 with fail
            have hc : ∀ (d : Nat) (os : Array Obj), Calls Tryz.prog 46 #[.agg #[x0, x1, x2, x3, x4, x5, x6, x7, x8], .agg #[y0, y1, y2, y3, y4, y5, y6, y7, y8]] (Sort.grow (redrawn wr d) os) fun e w'' => e = .returned (.int .i64 (num (cmp q q'))) ∧ ∃ p : Regrown, w'' = Sort.grow (redrawn wr p.d) p.os := fun d os => by
             have hb := below_regrown wr d os
             have hs := hb.size
             exact Calls.regrown_of (IH.out q q' _ _ _ B B' (HFV.out.below (hb.mono (by omega))) (HFV'.out.below (hb.mono (by omega))) (by omega) (by omega))
            have a1' := fun d os => cell_regrown a1 d os
            have d1' := fun d os => cell_regrown d1 d os
            have l0' := fun d os => cell_regrown l0 d os
            have l1' := fun d os => cell_regrown l1 d os
            have l2' := fun d os => cell_regrown l2 d os
            have l3' := fun d os => cell_regrown l3 d os
            have l4' := fun d os => cell_regrown l4 d os
            have l5' := fun d os => cell_regrown l5 d os
            have l6' := fun d os => cell_regrown l6 d os
            have l7' := fun d os => cell_regrown l7 d os
            have l8' := fun d os => cell_regrown l8 d os
            have m0' := fun d os => cell_regrown m0 d os
            have m1' := fun d os => cell_regrown m1 d os
            have m2' := fun d os => cell_regrown m2 d os
            have m3' := fun d os => cell_regrown m3 d os
            have m4' := fun d os => cell_regrown m4 d os
            have m5' := fun d os => cell_regrown m5 d os
            have m6' := fun d os => cell_regrown m6 d os
            have m7' := fun d os => cell_regrown m7 d os
            have m8' := fun d os => cell_regrown m8 d os
            have HC := Lib.hid hc
            have hj7 : j < ks.length := by omega
            have hj8 : j < ks'.length := by omega
            clear hc a0 a1 a2 a3 a4 a5 a6 a7 a8 d0 d1 d2 d3 d4 d5 d6 d7 d8 l0 l1 l2 l3 l4 l5 l6 l7 l8 m0 m1 m2 m3 m4 m5 m6 m7 m8
            refine wp_region_quiet_below l106.mixed (by kernel_rfl) ?_
            repeat (quiet_step (exact HC.out _ _))
            refine wpQuiet_nil ?_
            intro _ hw'
            obtain ⟨⟨dq, osq⟩, hw''⟩ := hw'
            subst hw''
            have HB5 := Lib.hid (HP.out.later ((below_regrown wr dq osq).mono hsz))
            clear a1' d1' l0' l1' l2' l3' l4' l5' l6' l7' l8' m0' m1' m2' m3' m4' m5' m6' m7' m8' hj3 hj4 hj5 hj6 hj7 hj8
            go_wp2_with fail
            ·have g : (num (cmp q q') != 0) = true := by assumption
             have hne : cmp q q' ≠ .eq := fun e => by rw [e] at g; cases g
             go_ret
             exact ⟨by rw [HKS.out, HA.out.differ HE.out HE'.out hne]; rfl, HB5.out.below⟩
            ·have g : (num (cmp q q') != 0) = false := by assumption
             have hz : cmp q q' = .eq := num_zero.1 (by simpa using g)
             go_round
             case rel => exact ⟨j + 1, by omega, by go_num, Lib.hid (HA.out.step HE.out HE'.out hz), HB5.out⟩
             case measure => simp [RowKit.intOf]; omega
           ·have ej : j = min ks.length ks'.length := by omega
            have hlen := HA.out.done ej
            have HLEN := Lib.hid hlen
            clear hb1 hb2 hlen HA HK HK'
            go_wp2_with (go_at_call 64; (with_reducible refine (sign_p _ _).mono ?_); rintro e w4 ⟨rfl, hb4⟩)
            go_ret
            refine ⟨?_, HP.out.below.trans (hb4.mono HP.out.below.size)⟩
            rw [HKS.out, HLEN.out, ← sgn_len]
            rfl
         ·cases dn <;> cases dn'
          ·exact absurd rfl hdn
          ·go_wp2_with fail
           go_ret
           exact ⟨by rw [cmp_dn E1.out E2.out E3.out E4.out E5.out E6.out hdn]; rfl, HP.out.below⟩
          ·go_wp2_with fail
           go_ret
           exact ⟨by rw [cmp_dn E1.out E2.out E3.out E4.out E5.out E6.out hdn]; rfl, HP.out.below⟩
          ·exact absurd rfl hdn
       ·have hml' : ¬ (ms.length : Int) = (ms'.length : Int) := by omega
        go_wp2_with (go_at_call 64; (with_reducible refine (sign_p _ _).mono ?_); rintro e w4 ⟨rfl, hb4⟩)
        go_ret
        refine ⟨?_, HP.out.below.trans (hb4.mono HP.out.below.size)⟩
        rw [cmp_ms E1.out E2.out E3.out (by rw [HLEN.out]; simpa using hml), HLEN.out, ← sgn_len]
        rfl
  ·go_enter Tryz.func46, Tryz.ntmps46
   go_wp2_with (go_at_call 64; (with_reducible refine (sign_p _ _).mono ?_); rintro e w4 ⟨rfl, hb4⟩)
   go_ret
   exact ⟨by rw [cmp_k hkk]; rfl, (HBB.out _ _).trans (hb4.mono (by simp; omega))⟩
end Go.Proofs.YtdkfmckbeagenaaGreatDoor
