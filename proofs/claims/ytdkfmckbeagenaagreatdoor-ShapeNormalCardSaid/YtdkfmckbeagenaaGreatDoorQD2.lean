/-
  filter.Cmp: what it computes.
 shape's closure laid$1; rosterlaw16.same of two filters that are one.
 filter.Twin of a filter that may be: a filter in memory of its own.
-/
import Derived.Test.YtdkfmckbeagenaaGreatDoorFltC1
import Derived.Test.YtdkfmckbeagenaaGreatDoorQC5
import Derived.Test.YtdkfmckbeagenaaGreatDoorQA3
import Derived.Test.YtdkfmckbeagenaaGreatDoorQD3
namespace Go.Proofs.YtdkfmckbeagenaaGreatDoor
open Go.RowKit Go.FltLaw Go.Lib Go.RankLaw

theorem may_at (b : Bool) (fuel B : Nat) (f : Flt) (v : Value) (w : World) (hF : FAt false w 0 B fuel f v) (hB : B ≤ w.heap.size) (hv : MaxVar w) (hM : 1 < w.heap.size) (hb : decide (FltLaw.may f) = b) :
  Calls Tryz.prog 41 #[v] w fun e w' => e = .returned (.bool b) ∧ Below w.heap.size w w' := by
 have h := may_p false 0 B fuel f v w hF hB hv hM
 rw [hb] at h
 exact h
theorem order_num {f g : Flt} {b c : Bool} (hb : decide (FltLaw.may f) = b) (hc : decide (FltLaw.may g) = c) : num (order f g) = if b then (if c then num (cmp f g) else -1) else if c then 1 else 0 := by
 subst hb hc
 unfold order
 by_cases hf : FltLaw.may f <;> by_cases hg : FltLaw.may g <;> simp [hf, hg, num]
set_option maxHeartbeats 1600000 in
set_option maxRecDepth 100000 in
theorem cmp_p (fuel : Nat) (f g : Flt) (vf vg : Value) (w : World) (B B' : Nat) (hF : FAt false w 0 B fuel f vf) (hG : FAt false w 0 B' fuel g vg) (hB : B ≤ w.heap.size) (hB' : B' ≤ w.heap.size) (hv : MaxVar w) (hM : 1 < w.heap.size) :
  Calls Tryz.prog 27 #[vf, vg] w fun e w' => e = .returned (.int .i64 (num (order f g))) ∧ Below w.heap.size w w' := by
 obtain ⟨b, hb⟩ : ∃ b, decide (FltLaw.may f) = b := ⟨_, rfl⟩
 obtain ⟨c, hc⟩ : ∃ c, decide (FltLaw.may g) = c := ⟨_, rfl⟩
 have HON := Lib.hid (order_num hb hc)
 have HF := Lib.hid hF
 have HG := Lib.hid hG
 obtain ⟨k2, A2, m2, c2', s2, s3, s4, A5, m5, q5, s6, s7, x8, rfl⟩ := (FAt.formF hF)
 obtain ⟨k2', A2', m2', c3', s2', s3', s4', A5', m5', q5', s6', s7', x8', rfl⟩ := (FAt.formF hG)
 have HP := Lib.hid (pair_start w #[.int .i8 k2, .slice A2 m2 c2', .string ⟨s2.toArray⟩, .string ⟨s3.toArray⟩, .string ⟨s4.toArray⟩, .slice A5 m5 q5, .string ⟨s6.toArray⟩, .string ⟨s7.toArray⟩, .bool x8]
  #[.int .i8 k2', .slice A2' m2' c3', .string ⟨s2'.toArray⟩, .string ⟨s3'.toArray⟩, .string ⟨s4'.toArray⟩, .slice A5' m5' q5', .string ⟨s6'.toArray⟩, .string ⟨s7'.toArray⟩, .bool x8'])
 clear hF hG
 go_enter Tryz.func27, Tryz.ntmps27
 go_upto_region 1 with fail
 generalize hw1 : (w.alloc (.cells #[.int .i8 k2, .slice A2 m2 c2', .string ⟨s2.toArray⟩, .string ⟨s3.toArray⟩, .string ⟨s4.toArray⟩, .slice A5 m5 q5, .string ⟨s6.toArray⟩, .string ⟨s7.toArray⟩, .bool x8] 26)).alloc
  (.cells #[.int .i8 k2', .slice A2' m2' c3', .string ⟨s2'.toArray⟩, .string ⟨s3'.toArray⟩, .string ⟨s4'.toArray⟩, .slice A5' m5' q5', .string ⟨s6'.toArray⟩, .string ⟨s7'.toArray⟩, .bool x8'] 26) = w1 at HP ⊢
 clear hw1
 obtain ⟨⟨a0, a1, a2, a3, a4, a5, a6, a7, a8⟩, d0, d1, d2, d3, d4, d5, d6, d7, d8⟩ := HP.out.nine
 have hsz := HP.out.size
 have hbw := HP.out.below
 have hin : ∀ (d : Nat) (os : Array Obj), Below w.heap.size w (Sort.grow (redrawn w1 d) os) := fun d os => hbw.trans ((below_regrown w1 d os).mono (by omega))
 have hsz2 : ∀ (d : Nat) (os : Array Obj), w.heap.size ≤ (Sort.grow (redrawn w1 d) os).heap.size := fun d os => (hin d os).size
 have hm1 := fun d os => Calls.regrown_of (may_at b fuel B f _ (Sort.grow (redrawn w1 d) os) (HF.out.below ((hin d os).mono hB)) (Nat.le_trans hB (hsz2 d os)) (hv.below (hin d os) hM) (Nat.lt_of_lt_of_le hM (hsz2 d os)) hb)
 have hm2 := fun d os => Calls.regrown_of (may_at c fuel B' g _ (Sort.grow (redrawn w1 d) os) (HG.out.below ((hin d os).mono hB')) (Nat.le_trans hB' (hsz2 d os)) (hv.below (hin d os) hM) (Nat.lt_of_lt_of_le hM (hsz2 d os)) hc)
 have HM1 := Lib.hid hm1
 have HM2 := Lib.hid hm2
 have a0' := fun d os => cell_regrown a0 d os
 have a1' := fun d os => cell_regrown a1 d os
 have a2' := fun d os => cell_regrown a2 d os
 have a3' := fun d os => cell_regrown a3 d os
 have a4' := fun d os => cell_regrown a4 d os
 have a5' := fun d os => cell_regrown a5 d os
 have a6' := fun d os => cell_regrown a6 d os
 have a7' := fun d os => cell_regrown a7 d os
 have a8' := fun d os => cell_regrown a8 d os
 have d0' := fun d os => cell_regrown d0 d os
 have d1' := fun d os => cell_regrown d1 d os
 have d2' := fun d os => cell_regrown d2 d os
 have d3' := fun d os => cell_regrown d3 d os
 have d4' := fun d os => cell_regrown d4 d os
 have d5' := fun d os => cell_regrown d5 d os
 have d6' := fun d os => cell_regrown d6 d os
 have d7' := fun d os => cell_regrown d7 d os
 have d8' := fun d os => cell_regrown d8 d os
 have HIN := Lib.hid hin
 have HV := Lib.hid hv
 clear hb hc hv hm1 hm2 a0 a1 a2 a3 a4 a5 a6 a7 a8 d0 d1 d2 d3 d4 d5 d6 d7 d8 hin hbw hsz2
 refine wp_region_quiet_below l106.mixed (by kernel_rfl) ?_
 repeat (quiet_step (first | (with_reducible exact HM1.out _ _) | (with_reducible exact HM2.out _ _)))
 refine wpQuiet_nil ?_
 intro _ hw'
 obtain ⟨⟨dq, osq⟩, hw''⟩ := hw'
 subst hw''
 have hbq := HIN.out dq osq
 have HBQ := Lib.hid hbq
 have hszq := hbq.size
 clear hbq
 clear HM1 HM2 HIN
 cases b <;> cases c
 all_goals
  go_wp2_with (go_at_call 46; (with_reducible refine (compare_p fuel f g _ _ _ B B' (HF.out.below (HBQ.out.mono hB)) (HG.out.below (HBQ.out.mono hB')) (by omega) (by omega)).mono ?_); rintro e w4 ⟨rfl, hb4⟩; have HB4 := Lib.hid (HBQ.out.trans (hb4.mono hszq)); clear hb4)
  go_ret
  first
   | exact ⟨by rw [HON.out]; rfl, HB4.out⟩
   | exact ⟨by rw [HON.out]; rfl, HBQ.out⟩
theorem grown_of {w w' : World} (h : Below w.heap.size w w') (hd : w.drawn ≤ w'.drawn) : ∃ q os, w' = Sort.grow (w.drewN q) os := by
 obtain ⟨⟨d, os⟩, h1⟩ := regrown_of_below h
 have e : w'.drawn = d := by rw [h1]; rfl
 refine ⟨d - w.drawn, os, ?_⟩
 rw [h1]
 have : redrawn w d = w.drewN (d - w.drawn) := by
  unfold redrawn World.drewN
  congr 1
  omega
 rw [this]
theorem cmp_lays (fuel : Nat) (f g : Flt) (vf vg : Value) (w : World) (B B' : Nat) (hF : FAt false w 0 B fuel f vf) (hG : FAt false w 0 B' fuel g vg) (hB : B ≤ w.heap.size) (hB' : B' ≤ w.heap.size) (hv : MaxVar w) (hM : 1 < w.heap.size) :
  Calls Tryz.prog 27 #[vf, vg] w fun e w' => e = .returned (.int .i64 (num (order f g))) ∧ ∃ q os, w' = Sort.grow (w.drewN q) os :=
 (Drawn.calls_ge (cmp_p fuel f g vf vg w B B' hF hG hB hB' hv hM)).mono fun e w' ⟨⟨h1, h2⟩, h3⟩ => ⟨h1, grown_of h2 (h3 _ h1)⟩
end Go.Proofs.YtdkfmckbeagenaaGreatDoor

namespace Go.Proofs.YtdkfmckbeagenaaGreatDoor
open Go.RowKit Go.FltLaw Go.Lib Go.RankLaw

set_option maxHeartbeats 800000 in
set_option maxRecDepth 100000 in
theorem laid1_p (fuel : Nat) (f g : Flt) (vf vg : Value) (w : World) (B B' : Nat) (hF : FAt false w 0 B fuel f vf) (hG : FAt false w 0 B' fuel g vg) (hB : B ≤ w.heap.size) (hB' : B' ≤ w.heap.size) (hv : MaxVar w) (hM : 1 < w.heap.size) :
  Calls Tryz.prog 45 #[vf, vg] w fun e w' => e = .returned (.bool (num (order f g) == 0)) ∧ Below w.heap.size w w' := by
 have HF := Lib.hid hF
 have HG := Lib.hid hG
 have HV := Lib.hid hv
 obtain ⟨k2, A2, m2, c2', s2, s3, s4, A5, m5, q5, s6, s7, x8, rfl⟩ := (FAt.formF hF)
 obtain ⟨k2', A2', m2', c3', s2', s3', s4', A5', m5', q5', s6', s7', x8', rfl⟩ := (FAt.formF hG)
 have hb0 : ∀ o o', Below w.heap.size w ((w.alloc o).alloc o') := fun o o' => ((Below.refl _ w).alloc (Nat.le_refl _) o).alloc (by simp) o'
 have HB0 := Lib.hid hb0
 clear hF hG hv hb0
 go_enter Tryz.func45, Tryz.ntmps45
 go_wp2_with (go_at_call 27; (with_reducible refine (cmp_p fuel f g _ _ _ B B' (HF.out.below ((HB0.out _ _).mono hB)) (HG.out.below ((HB0.out _ _).mono hB')) (by simp <;> omega) (by simp <;> omega) (HV.out.below (HB0.out _ _) hM) (by simp <;> omega)).mono ?_); rintro e w4 ⟨rfl, hb4⟩; have HB4 := Lib.hid ((HB0.out _ _).trans (hb4.mono (by simp <;> omega))); clear hb4)
 go_ret
 exact ⟨rfl, HB4.out⟩
set_option maxHeartbeats 3200000 in
set_option maxRecDepth 100000 in
theorem same16 : ∀ (fuel : Nat) (f : Flt) (va vb : Value) (w : World) (B B' : Nat), FAt false w 0 B fuel f va → FAt false w 0 B' fuel f vb → B ≤ w.heap.size → B' ≤ w.heap.size →
  Calls Tryz.prog 11 #[va, vb] w fun e w' => e = .returned (.bool true) ∧ Below w.heap.size w w' := by
 intro fuel
 induction fuel with
 | zero => intro f va vb w B B' h; exact h.elim
 | succ fuel ih =>
  intro f va vb w B B' hF hG hB hB'
  obtain ⟨k, ks, ds, vl, st, ms, fn, rl, dn⟩ := f
  obtain ⟨KA, kc, MA, mc, rfl, hfit, hmA, hkA, _⟩ := hF
  obtain ⟨KA', kc', MA', mc', rfl, hfit', hmA', hkA', _⟩ := hG
  have IH := Lib.hid ih
  have HM := Lib.hid hmA
  have HK := Lib.hid hkA
  have HM' := Lib.hid hmA'
  have HK' := Lib.hid hkA'
  have b1 := hfit.kn1
  have b2 := hfit.mn1
  have HP := fun (o o' : Array Value) => Lib.hid (pair_start w o o')
  clear ih hfit hfit' hmA hkA hmA' hkA'
  unfold flt
  go_enter Tryz.func11, Tryz.ntmps11
  go_wp2_with fail
  go_loopw [5] (fun i wr => ∃ (j : Nat), j ≤ ms.length ∧ i = .int .i64 j ∧ Pair w wr #[.int .i8 k, .slice KA ks.length kc, .string ⟨ds.toArray⟩, .string ⟨vl.toArray⟩, .string ⟨st.toArray⟩, .slice MA ms.length mc, .string ⟨fn.toArray⟩, .string ⟨rl.toArray⟩, .bool dn]
   #[.int .i8 k, .slice KA' ks.length kc', .string ⟨ds.toArray⟩, .string ⟨vl.toArray⟩, .string ⟨st.toArray⟩, .slice MA' ms.length mc', .string ⟨fn.toArray⟩, .string ⟨rl.toArray⟩, .bool dn]) (fun i _ => ms.length - (RowKit.intOf i).toNat)
  case atStart => exact ⟨0, Nat.zero_le _, rfl, (HP _ _).out⟩
  case round =>
   obtain ⟨j, hj, rfl, hP⟩ := hrel
   have HQ := Lib.hid hP
   obtain ⟨⟨a0, a1, a2, a3, a4, a5, a6, a7, a8⟩, d0, d1, d2, d3, d4, d5, d6, d7, d8⟩ := hP.nine
   have hb1 : Below B w _ := hP.below.mono hB
   have hb2 : Below B' w _ := hP.below.mono hB'
   clear hP
   by_cases hlt : j < ms.length
   ·obtain ⟨ad, rfl, _, hadB, hel⟩ := HM.out (by omega)
    obtain ⟨ad', rfl, _, hadB', hel'⟩ := HM'.out (by omega)
    have hke := List.getElem?_eq_getElem hlt
    generalize ms[j] = q at hke
    have m1 := (hb1.cell (p := ad.add j) (by rw [RankLaw.add_block]; exact hadB)).trans (hel j q hke)
    have m2 := (hb2.cell (p := ad'.add j) (by rw [RankLaw.add_block]; exact hadB')).trans (hel' j q hke)
    unfold txt at m1 m2
    have hj2 : (j : Int) < (ms.length : Int) := by omega
    have hj3 : decide ((ms.length : Int) ≤ (j : Int)) = false := by simp; omega
    have hj4 : decide (ms.length ≤ j) = false := by simp; omega
    clear hel hel' hke hb1 hb2
    go_wp2_with fail
    go_quiet (fail)
    go_wp2_with fail
    go_round
    case rel => exact ⟨j + 1, by omega, by go_num, HQ.out.later (below_dn (Below.refl _ _) _)⟩
    case measure => simp [RowKit.intOf]; omega
   ·clear hb1 hb2
    go_wp2_with fail
    go_loopw [6] (fun i wr => ∃ (j : Nat), j ≤ ks.length ∧ i = .int .i64 j ∧ Pair w wr #[.int .i8 k, .slice KA ks.length kc, .string ⟨ds.toArray⟩, .string ⟨vl.toArray⟩, .string ⟨st.toArray⟩, .slice MA ms.length mc, .string ⟨fn.toArray⟩, .string ⟨rl.toArray⟩, .bool dn] #[.int .i8 k, .slice KA' ks.length kc', .string ⟨ds.toArray⟩, .string ⟨vl.toArray⟩, .string ⟨st.toArray⟩, .slice MA' ms.length mc', .string ⟨fn.toArray⟩, .string ⟨rl.toArray⟩, .bool dn]) (fun i _ => ks.length - (RowKit.intOf i).toNat)
    case atStart => exact ⟨0, Nat.zero_le _, rfl, HQ.out⟩
    case round =>
     clear HQ a0 a1 a2 a3 a4 a5 a6 a7 a8 d0 d1 d2 d3 d4 d5 d6 d7 d8
     obtain ⟨i, hi, rfl, hP⟩ := hrel
     have HQ := Lib.hid hP
     obtain ⟨⟨a0, a1, a2, a3, a4, a5, a6, a7, a8⟩, d0, d1, d2, d3, d4, d5, d6, d7, d8⟩ := hP.nine
     have hb1 : Below B w _ := hP.below.mono hB
     have hb2 : Below B' w _ := hP.below.mono hB'
     have hsz := hP.size
     have hbw := hP.below
     clear hP
     by_cases hlt2 : i < ks.length
     ·obtain ⟨ad, rfl, _, hadB, hel⟩ := HK.out (by omega)
      obtain ⟨ad', rfl, _, hadB', hel'⟩ := HK'.out (by omega)
      have hke := List.getElem?_eq_getElem hlt2
      generalize ks[i] = q at hke
      obtain ⟨fv, hfv, hcells⟩ := hel i _ hke
      obtain ⟨fv', hfv', hcells'⟩ := hel' i _ hke
      have HFV := Lib.hid (hfv.below hb1)
      have HFV' := Lib.hid (hfv'.below hb2)
      obtain ⟨x0, x1, x2, x3, x4, x5, x6, x7, x8, rfl⟩ := (FAt.form hfv)
      obtain ⟨y0, y1, y2, y3, y4, y5, y6, y7, y8, rfl⟩ := (FAt.form hfv')
      obtain ⟨l0, l1, l2, l3, l4, l5, l6, l7, l8⟩ := nine_at (m := i * 9) (fun q u hu => (hb1.cell (p := ad.add (i * 9 + q)) (by rw [RankLaw.add_block]; exact hadB)).trans (hcells q u hu))
      obtain ⟨m0, m1, m2, m3, m4, m5, m6, m7, m8⟩ := nine_at (m := i * 9) (fun q u hu => (hb2.cell (p := ad'.add (i * 9 + q)) (by rw [RankLaw.add_block]; exact hadB')).trans (hcells' q u hu))
      have hj2 : (i : Int) < (ks.length : Int) := by omega
      have hj3 : decide ((ks.length : Int) ≤ (i : Int)) = false := by simp; omega
      have hj4 : decide (ks.length ≤ i) = false := by simp; omega
      clear hel hel' hke hb1 hb2 hfv hfv' hcells hcells' hbw
      go_upto_region 11 with fail
      have hc : ∀ (d : Nat) (os : Array Obj), Calls Tryz.prog 11 #[.agg #[x0, x1, x2, x3, x4, x5, x6, x7, x8], .agg #[y0, y1, y2, y3, y4, y5, y6, y7, y8]] (Sort.grow (redrawn wr d) os) fun e w'' => e = .returned (.bool true) ∧ ∃ p : Regrown, w'' = Sort.grow (redrawn wr p.d) p.os := fun d os => by
       have hb := below_regrown wr d os
       have hs := hb.size
       exact Calls.regrown_of (IH.out q _ _ _ B B' (HFV.out.below (hb.mono (by omega))) (HFV'.out.below (hb.mono (by omega))) (by omega) (by omega))
      have a1' := fun d os => cell_regrown a1 d os
      have d1' := fun d os => cell_regrown d1 d os
      have l0' := fun d os => cell_regrown l0 d os
      have l1' := fun d os => cell_regrown l1 d os
      have l2' := fun d os => cell_regrown l2 d os
      have l3' := fun d os => cell_regrown l3 d os
      have l4' := fun d os => cell_regrown l4 d os
      have l5' := fun d os => cell_regrown l5 d os
      have l6' := fun d os => cell_regrown l6 d os
      have l7' := fun d os => cell_regrown l7 d os
      have l8' := fun d os => cell_regrown l8 d os
      have m0' := fun d os => cell_regrown m0 d os
      have m1' := fun d os => cell_regrown m1 d os
      have m2' := fun d os => cell_regrown m2 d os
      have m3' := fun d os => cell_regrown m3 d os
      have m4' := fun d os => cell_regrown m4 d os
      have m5' := fun d os => cell_regrown m5 d os
      have m6' := fun d os => cell_regrown m6 d os
      have m7' := fun d os => cell_regrown m7 d os
      have m8' := fun d os => cell_regrown m8 d os
      have HC := Lib.hid hc
      clear hc a0 a1 a2 a3 a4 a5 a6 a7 a8 d0 d1 d2 d3 d4 d5 d6 d7 d8 l0 l1 l2 l3 l4 l5 l6 l7 l8 m0 m1 m2 m3 m4 m5 m6 m7 m8
      refine wp_region_quiet_below l106.mixed (by kernel_rfl) ?_
      repeat (quiet_step (with_reducible exact HC.out _ _))
      refine wpQuiet_nil ?_
      intro _ hw'
      obtain ⟨⟨dq, osq⟩, hw''⟩ := hw'
      subst hw''
      have HB5 := Lib.hid (HQ.out.later ((below_regrown wr dq osq).mono hsz))
      clear a1' d1' l0' l1' l2' l3' l4' l5' l6' l7' l8' m0' m1' m2' m3' m4' m5' m6' m7' m8'
      go_wp2_with fail
      go_round
      case rel => exact ⟨i + 1, by omega, by go_num, HB5.out⟩
      case measure => simp [RowKit.intOf]; omega
     ·clear hb1 hb2
      go_wp2_with fail
      go_ret
      exact ⟨rfl, hbw⟩
end Go.Proofs.YtdkfmckbeagenaaGreatDoor

namespace Go.Proofs.YtdkfmckbeagenaaGreatDoor
open Go.RowKit Go.FltLaw Go.Lib Go.RankLaw

end Go.Proofs.YtdkfmckbeagenaaGreatDoor
