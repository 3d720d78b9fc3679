/-
  rosterref09.Cmp: what it computes.
  rosterref09.Twin of a filter that may be; rosterref16.Normal, Is.
  shape.Is.
  What Normal answers, may or not; how much spoil counts; the world of ShapeNormal behind its calls.
-/
import Derived.Test.YtdkfmckbeagenaaGreatDoorQD2
import Derived.Test.YtdkfmckbeagenaaGreatDoorQC5
import Derived.Test.YtdkfmckbeagenaaGreatDoorFltQ2
import Derived.Test.YtdkfmckbeagenaaGreatDoorQG5
import Derived.Test.YtdkfmckbeagenaaGreatDoorQG2
import Derived.Test.YtdkfmckbeagenaaGreatDoorQG4
set_option linter.unusedVariables false
set_option linter.unusedSimpArgs false
namespace Go.Proofs.YtdkfmckbeagenaaGreatDoor
open Go.RowKit Go.FltLaw Go.Lib Go.RankLaw

theorem mayr_at (b : Bool) (fuel B : Nat) (f : Flt) (v : Value) (w : World) (hF : FAt false w 0 B fuel f v) (hB : B ≤ w.heap.size) (hb : decide (FltLaw.may f) = b) :
  Calls Tryz.prog 37 #[v] w fun e w' => e = .returned (.bool b) ∧ Below w.heap.size w w' := by
 have h := may_r false 0 B fuel f v w hF hB
 rw [hb] at h
 exact h
set_option maxHeartbeats 1600000 in
set_option maxRecDepth 100000 in
theorem refcmp : RefCmp := by
 intro fuel f g vf vg w B B' hF hG hB hB'
 obtain ⟨b, hb⟩ : ∃ b, decide (FltLaw.may f) = b := ⟨_, rfl⟩
 obtain ⟨c, hc⟩ : ∃ c, decide (FltLaw.may g) = c := ⟨_, rfl⟩
 have HON := Lib.hid (order_num hb hc)
 have HF := Lib.hid hF
 have HG := Lib.hid hG
 obtain ⟨k2, A2, m2, c2', s2, s3, s4, A5, m5, q5, s6, s7, x8, rfl⟩ := (FAt.formF hF)
 obtain ⟨k2', A2', m2', c3', s2', s3', s4', A5', m5', q5', s6', s7', x8', rfl⟩ := (FAt.formF hG)
 have HP := Lib.hid (pair_start w #[.int .i8 k2, .slice A2 m2 c2', .string ⟨s2.toArray⟩, .string ⟨s3.toArray⟩, .string ⟨s4.toArray⟩, .slice A5 m5 q5, .string ⟨s6.toArray⟩, .string ⟨s7.toArray⟩, .bool x8]
  #[.int .i8 k2', .slice A2' m2' c3', .string ⟨s2'.toArray⟩, .string ⟨s3'.toArray⟩, .string ⟨s4'.toArray⟩, .slice A5' m5' q5', .string ⟨s6'.toArray⟩, .string ⟨s7'.toArray⟩, .bool x8'])
 have HBB := Lib.hid hb
 have HCC := Lib.hid hc
 clear hF hG hb hc
 go_enter Tryz.func23, Tryz.ntmps23
 go_upto_region 1 with fail
 generalize hw1 : (w.alloc (.cells #[.int .i8 k2, .slice A2 m2 c2', .string ⟨s2.toArray⟩, .string ⟨s3.toArray⟩, .string ⟨s4.toArray⟩, .slice A5 m5 q5, .string ⟨s6.toArray⟩, .string ⟨s7.toArray⟩, .bool x8] 26)).alloc
  (.cells #[.int .i8 k2', .slice A2' m2' c3', .string ⟨s2'.toArray⟩, .string ⟨s3'.toArray⟩, .string ⟨s4'.toArray⟩, .slice A5' m5' q5', .string ⟨s6'.toArray⟩, .string ⟨s7'.toArray⟩, .bool x8'] 26) = w1 at HP ⊢
 clear hw1
 obtain ⟨⟨a0, a1, a2, a3, a4, a5, a6, a7, a8⟩, -⟩ := HP.out.nine
 have hsz := HP.out.size
 go_upto_region 2 with (go_at_call 37; (with_reducible refine (mayr_at b fuel B f _ w1 (HF.out.below (HP.out.below.mono hB)) (by omega) HBB.out).mono ?_); rintro e w2 ⟨rfl, hb2⟩; have HP2 := Lib.hid (HP.out.later (hb2.mono hsz)); clear hb2)
 clear a0 a1 a2 a3 a4 a5 a6 a7 a8 HP hsz
 obtain ⟨-, d0, d1, d2, d3, d4, d5, d6, d7, d8⟩ := HP2.out.nine
 have hsz := HP2.out.size
 go_upto_region 3 with (go_at_call 37; (with_reducible refine (mayr_at c fuel B' g _ w2 (HG.out.below (HP2.out.below.mono hB')) (by omega) HCC.out).mono ?_); rintro e w3 ⟨rfl, hb3⟩; have HP3 := Lib.hid (HP2.out.later (hb3.mono hsz)); clear hb3)
 clear d0 d1 d2 d3 d4 d5 d6 d7 d8 HP2 hsz
 obtain ⟨⟨a0, a1, a2, a3, a4, a5, a6, a7, a8⟩, d0, d1, d2, d3, d4, d5, d6, d7, d8⟩ := HP3.out.nine
 have hsz := HP3.out.size
 cases b <;> cases c
 all_goals
  go_wp2_with (go_at_call 40; (with_reducible refine (cmp_r fuel f g _ _ _ B B' (HF.out.below (HP3.out.below.mono hB)) (HG.out.below (HP3.out.below.mono hB')) (by omega) (by omega)).mono ?_); rintro e w4 ⟨rfl, hb4⟩; have HB4 := Lib.hid (HP3.out.below.trans (hb4.mono (by omega))); clear hb4)
  go_ret
  first
   | exact ⟨by rw [HON.out]; rfl, HB4.out⟩
   | exact ⟨by rw [HON.out]; rfl, HP3.out.below⟩
end Go.Proofs.YtdkfmckbeagenaaGreatDoor

namespace Go.Proofs.YtdkfmckbeagenaaGreatDoor
open Go.RowKit Go.FltLaw Go.Lib Go.RankLaw

set_option maxHeartbeats 1600000 in
set_option maxRecDepth 100000 in
theorem rTwin_may (fuel : Nat) (f : Flt) (v : Value) (w : World) (B : Nat) (hF : FAt false w 0 B fuel f v) (hB : B ≤ w.heap.size) (hm : FltLaw.may f) :
  Calls Tryz.prog 21 #[v] w (Twin1 fuel f w) := by
 have HF := Lib.hid hF
 have hb0 : ∀ o o', Below w.heap.size w ((w.alloc o).alloc o') := fun o o' => ((Below.refl _ w).alloc (Nat.le_refl _) o).alloc (by simp) o'
 have HB0 := Lib.hid hb0
 have hd : decide (FltLaw.may f) = true := by simpa using hm
 have HD := Lib.hid hd
 obtain ⟨k2, A2, m2, c2', s2, s3, s4, A5, m5, q5, s6, s7, x8, rfl⟩ := (FAt.formF hF)
 have hfb := fun o' => heap_alloc2_old w (.cells #[.int .i8 k2, .slice A2 m2 c2', .string ⟨s2.toArray⟩, .string ⟨s3.toArray⟩, .string ⟨s4.toArray⟩, .slice A5 m5 q5, .string ⟨s6.toArray⟩, .string ⟨s7.toArray⟩, .bool x8] 26) o'
 have hrb := fun o => heap_alloc2_new w o (.cells blankT 26)
 have HFB := Lib.hid hfb
 have HRB := Lib.hid hrb
 clear hF hb0 hd hfb hrb hm
 go_enter Tryz.func21, Tryz.ntmps21
 go_wp2_with (first
  | (go_at_call 37; (with_reducible refine (mayr_at true fuel B f _ _ (HF.out.below ((HB0.out _ _).mono hB)) (by simp <;> omega) HD.out).mono ?_); rintro e w3 ⟨rfl, hb3⟩; have g1 := (hb3.block w.heap.size (by simp <;> omega)).trans (HFB.out _); have G2 := Lib.hid ((hb3.block (w.heap.size + 1) (by simp <;> omega)).trans (HRB.out _)); obtain ⟨c0, c1, c2, c3, c4, c5, c6, c7, c8⟩ := nine_heap g1; have HB3 := Lib.hid ((HB0.out _ _).trans (hb3.mono (by simp <;> omega))); have hz3 : w.heap.size + 2 ≤ w3.heap.size := (by have := hb3.size; simp at this; omega); clear hb3 g1)
  | (go_at_call 38; (with_reducible refine (rtwin_p fuel f _ w3 B (HF.out.below (HB3.out.mono hB)) (by omega)).mono ?_); rintro e w4 ⟨v4, rfl, hv4, hb4⟩; obtain ⟨k4, A4, n4, d4, r2, r3, r4, A6, n6, d6, r6, r7, x4, rfl⟩ := (FAt.formF hv4); have HV4 := Lib.hid hv4; have HB4 := Lib.hid hb4; have hz4 := hb4.size; have G4 := Lib.hid ((hb4.block (w.heap.size + 1) (by omega)).trans G2.out); clear hv4 hb4)
  | (refine wpList_store_row rfl 26 (.tmp 2) (.tmp 8) rfl (w.heap.size + 1) #[.int .i8 k4, .slice A4 n4 d4, .string ⟨r2.toArray⟩, .string ⟨r3.toArray⟩, .string ⟨r4.toArray⟩, .slice A6 n6 d6, .string ⟨r6.toArray⟩, .string ⟨r7.toArray⟩, .bool x4] rfl rfl 26 blankT G4.out (by kernel_rfl) rfl (by simp [Value.oneCell']) ?_))
 (try simp only [Exit.inBlock, Exit.then])
 refine bodyPost_ret (results_cell_row rfl _ _ (w.heap.size + 1) 26 _ (0, 0) _ rfl (setRow_heap _ _ _ _ _ _ G4.out) Tryz.underlying26 rfl (by kernel_rfl)) rfl ?_
 refine ⟨_, rfl, ?_, (HB3.out.trans (HB4.out.mono (by omega))).trans ⟨rfl, rfl, rfl, by simp, fun b hb => setRow_other _ _ _ _ (by omega)⟩⟩
 refine (FAt.keep (fun p hp _ => World.cell?_of_block (setRow_other _ _ _ _ (by omega))) HV4.out).wide (by omega) (by simp)
def RNormal (n : Nat) (f : Flt) (w : World) (e : Ending) (w' : World) : Prop :=
 ∃ v', e = .returned (.tuple #[v', .int .i64 (check f).1]) ∧ (FltLaw.may f → FAt false w' 0 w'.heap.size (n + 1) (form f false) v') ∧ (¬ FltLaw.may f → v' = .agg zeroF9) ∧ Below w.heap.size w w'
set_option maxHeartbeats 1600000 in
set_option maxRecDepth 100000 in
theorem rnormal_p (fuel : Nat) (f : Flt) (v : Value) (w : World) (B : Nat) (hF : FAt false w 0 B fuel f v) (hB : B ≤ w.heap.size) :
  Calls Tryz.prog 7 #[v] w (RNormal fuel f w) := by
 have HF := Lib.hid hF
 have hb0 : ∀ o o', Below w.heap.size w ((w.alloc o).alloc o') := fun o o' => ((Below.refl _ w).alloc (Nat.le_refl _) o).alloc (by simp) o'
 have HB0 := Lib.hid hb0
 obtain ⟨k2, A2, m2, c2', s2, s3, s4, A5, m5, q5, s6, s7, x8, rfl⟩ := (FAt.formF hF)
 have hfb := fun o' => heap_alloc2_old w (.cells #[.int .i8 k2, .slice A2 m2 c2', .string ⟨s2.toArray⟩, .string ⟨s3.toArray⟩, .string ⟨s4.toArray⟩, .slice A5 m5 q5, .string ⟨s6.toArray⟩, .string ⟨s7.toArray⟩, .bool x8] 26) o'
 have hrb := fun o => heap_alloc2_new w o (.cells zeroF9 26)
 have HFB := Lib.hid hfb
 have HRB := Lib.hid hrb
 clear hF hb0 hfb hrb
 generalize hcc : check f = cc
 obtain ⟨c, n, d⟩ := cc
 have HCC := Lib.hid hcc
 by_cases hm : FltLaw.may f
 ·have hc0 : c = 0 := by have := may_check0 hm; rw [hcc] at this; exact this
  subst hc0
  have HMY := Lib.hid hm
  obtain ⟨hfine, hdp, hsz⟩ := may_iff.1 hm
  have HFI := Lib.hid hfine
  obtain ⟨g1, g2, g3⟩ := grown_char hfine
  have HSD : RowKit.Hid (sizeN (turnB false (grown f)) ≤ 65536 ∧ deepN (turnB false (grown f)) ≤ 65) := Lib.hid ⟨by show sizeN (grown f) ≤ 65536; omega, by show deepN (grown f) ≤ 65; omega⟩
  clear hm hfine g1 hcc
  go_enter Tryz.func7, Tryz.ntmps7
  go_wp2_with (first
   | (go_at_call 20; (with_reducible refine (checks_x (check_r false 0 B fuel f _ _ (HF.out.below ((HB0.out _ _).mono hB)) (by simp <;> omega)) HCC.out).mono ?_); rintro e w3 ⟨rfl, hb3⟩; have h1 := (hb3.block w.heap.size (by simp <;> omega)).trans (HFB.out _); have HR3 := Lib.hid ((hb3.block (w.heap.size + 1) (by simp <;> omega)).trans (HRB.out _)); obtain ⟨c0, c1, c2, c3, c4, c5, c6, c7, c8⟩ := nine_heap h1; have HB3 := Lib.hid ((HB0.out _ _).trans (hb3.mono (by simp <;> omega))); have hz3 : w.heap.size + 2 ≤ w3.heap.size := (by have := hb3.size; simp at this; omega); clear hb3 h1)
   | (go_at_call 21; (with_reducible refine (rTwin_may fuel f _ w3 B (HF.out.below (HB3.out.mono hB)) (by omega) HMY.out).mono ?_); rintro e w4 ⟨v4, rfl, hv4, hb4⟩; obtain ⟨k4, A4, n4, d4, r2, r3, r4, A6, n6, d6, r6, r7, x4, rfl⟩ := (FAt.formF hv4); have HV4 := Lib.hid (fun o : Obj => (FAtS.of hv4).below (w' := w4.alloc o) (B := w4.heap.size) (fun b hb => itv_lt hb) ((Below.refl _ _).alloc (Nat.le_refl _) o)); have HB4 := Lib.hid hb4; have hz4 := hb4.size; clear hv4 hb4)
   | (go_at_call 22; go_loud ((with_reducible refine (form_p refcmp fuel f false _ _ (Itv w3.heap.size w4.heap.size) (HV4.out _) (fun b hb => by have := itv_lt hb; simp; omega) HFI.out HSD.out.1 HSD.out.2).mono ?_); rintro e w5 ⟨v5, rfl, hf5, hb5⟩; have hz5 := hb5.size; simp at hz5; have HF5 := Lib.hid (FAtS.to (lo := w.heap.size + 2) (hi := w5.heap.size) (fun b hb => by rcases hb with hb | hb; exact ⟨by have := hb.1; omega, by have := hb.2; omega⟩; exact ⟨by have := hb.1; simp at this; omega, hb.2⟩) hf5); obtain ⟨k6, A7, n7, d7, t2, t3, t4, A8, n8, d8, t6, t7, x6, rfl⟩ := (FAt.formF HF5.out); have HR5 := Lib.hid ((hb5.block (w.heap.size + 1) (by simp; omega)).trans ((Below.heap_alloc _ _ _ (by omega)).trans ((HB4.out.block (w.heap.size + 1) (by omega)).trans HR3.out))); have HB5 := Lib.hid (((Below.refl w4.heap.size w4).alloc (Nat.le_refl _) _).trans (hb5.mono (by simp))); clear hf5 hb5))
   | (refine wpList_store_row rfl 26 (.tmp 2) (.tmp 21) rfl (w.heap.size + 1) #[.int .i8 k6, .slice A7 n7 d7, .string ⟨t2.toArray⟩, .string ⟨t3.toArray⟩, .string ⟨t4.toArray⟩, .slice A8 n8 d8, .string ⟨t6.toArray⟩, .string ⟨t7.toArray⟩, .bool x6] rfl rfl 26 zeroF9 HR5.out (by kernel_rfl) rfl (by simp [Value.oneCell']) ?_))
  (try simp only [Exit.inBlock, Exit.then])
  refine bodyPost_ret (results_ct16 rfl _ _ (w.heap.size + 1) 26 _ (0, 0) _ rfl (setRow_heap _ _ _ _ _ _ HR5.out) Tryz.underlying26 rfl (by kernel_rfl)) rfl ?_
  refine ⟨_, by rw [HCC.out]; rfl, fun _ => ?_, fun h => absurd HMY.out h, ((HB3.out.trans (HB4.out.mono (by omega))).trans (HB5.out.mono (by omega))).trans ⟨rfl, rfl, rfl, by simp, fun b hb => setRow_other _ _ _ _ (by omega)⟩⟩
  rw [← normal_same HMY.out, show FltLaw.grown f = turnB false (grown f) from rfl]
  refine (FAt.keep (fun p hp _ => World.cell?_of_block (setRow_other _ _ _ _ (by omega))) HF5.out).wide (Nat.zero_le _) (by simp)
 ·have hc1 : ¬ c = 0 := fun h => hm (check_ok.1 (by rw [hcc]; exact h))
  have HMY := Lib.hid hm
  clear hm hcc
  go_enter Tryz.func7, Tryz.ntmps7
  go_wp2_with (first
   | (go_at_call 20; (with_reducible refine (checks_x (check_r false 0 B fuel f _ _ (HF.out.below ((HB0.out _ _).mono hB)) (by simp <;> omega)) HCC.out).mono ?_); rintro e w3 ⟨rfl, hb3⟩; have HR3 := Lib.hid ((hb3.block (w.heap.size + 1) (by simp <;> omega)).trans (HRB.out _)); have HB3 := Lib.hid ((HB0.out _ _).trans (hb3.mono (by simp <;> omega))); clear hb3)
   | (refine wpList_store_row rfl 26 (.tmp 2) (.tmp 16) rfl (w.heap.size + 1) zeroF9 rfl rfl 26 zeroF9 HR3.out (by kernel_rfl) rfl (by simp [Value.oneCell']) ?_))
  (try simp only [Exit.inBlock, Exit.then])
  refine bodyPost_ret (results_ct16 rfl _ _ (w.heap.size + 1) 26 _ (0, 0) _ rfl (setRow_heap _ _ _ _ _ _ HR3.out) Tryz.underlying26 rfl (by kernel_rfl)) rfl ?_
  exact ⟨_, by rw [HCC.out]; rfl, fun h => absurd h HMY.out, fun _ => rfl, HB3.out.trans ⟨rfl, rfl, rfl, by simp, fun b hb => setRow_other _ _ _ _ (by omega)⟩⟩
theorem refcmp_at (fuel : Nat) (f g : Flt) (vf vg : Value) (w : World) (B B' : Nat) (hF : FAt false w 0 B fuel f vf) (hG : FAt false w 0 B' fuel g vg) (hB : B ≤ w.heap.size) (hB' : B' ≤ w.heap.size) :
  Calls Tryz.prog 23 #[vf, vg] w fun e w' => e = .returned (.int .i64 (num (order f g))) ∧ Below w.heap.size w w' := refcmp fuel f g vf vg w B B' hF hG hB hB'
def isN (f : Flt) : Bool := decide (FltLaw.may f) && decide (num (order f (form f false)) = 0)
set_option maxHeartbeats 1600000 in
set_option maxRecDepth 100000 in
theorem ris_p (fuel : Nat) (f : Flt) (v : Value) (w : World) (B : Nat) (hF : FAt false w 0 B fuel f v) (hB : B ≤ w.heap.size) :
  Calls Tryz.prog 8 #[v] w fun e w' => e = .returned (.bool (isN f)) ∧ Below w.heap.size w w' := by
 have HF := Lib.hid hF
 have hb0 : ∀ o, Below w.heap.size w (w.alloc o) := fun o => (Below.refl _ w).alloc (Nat.le_refl _) o
 have HB0 := Lib.hid hb0
 obtain ⟨k2, A2, m2, c2', s2, s3, s4, A5, m5, q5, s6, s7, x8, rfl⟩ := (FAt.formF hF)
 have hfb := heap_alloc_new w (.cells #[.int .i8 k2, .slice A2 m2 c2', .string ⟨s2.toArray⟩, .string ⟨s3.toArray⟩, .string ⟨s4.toArray⟩, .slice A5 m5 q5, .string ⟨s6.toArray⟩, .string ⟨s7.toArray⟩, .bool x8] 26)
 have HFB := Lib.hid hfb
 clear hF hb0 hfb
 generalize hcc : check f = cc
 obtain ⟨c, n, d⟩ := cc
 have HCC := Lib.hid hcc
 by_cases hm : FltLaw.may f
 ·have hc0 : c = 0 := by have := may_check0 hm; rw [hcc] at this; exact this
  subst hc0
  have HMY := Lib.hid hm
  obtain ⟨z, hz⟩ : ∃ z, num (order f (form f false)) = z := ⟨_, rfl⟩
  have HZ := Lib.hid hz
  clear hm hcc hz
  go_enter Tryz.func8, Tryz.ntmps8
  go_wp2_with (first
   | (go_at_call 7; (with_reducible refine (rnormal_p fuel f _ _ B (HF.out.below ((HB0.out _).mono hB)) (by simp <;> omega)).mono ?_); rintro e w3 ⟨v3, rfl, hv3, -, hb3⟩; rw [HCC.out]; have hf3 := hv3 HMY.out; obtain ⟨k4, A4, n4, d4, r2, r3, r4, A6, n6, d6, r6, r7, x4, rfl⟩ := (FAt.formF hf3); have h1 := fun o => kb_alloc (o' := o) ((hb3.block w.heap.size (by simp <;> omega)).trans HFB.out); have H1 := Lib.hid h1; have e0 := fun o => (nine_heap (h1 o)).1; have e1 := fun o => (nine_heap (h1 o)).2.1; have e2 := fun o => (nine_heap (h1 o)).2.2.1; have e3 := fun o => (nine_heap (h1 o)).2.2.2.1; have e4 := fun o => (nine_heap (h1 o)).2.2.2.2.1; have e5 := fun o => (nine_heap (h1 o)).2.2.2.2.2.1; have e6 := fun o => (nine_heap (h1 o)).2.2.2.2.2.2.1; have e7 := fun o => (nine_heap (h1 o)).2.2.2.2.2.2.2.1; have e8 := fun o => (nine_heap (h1 o)).2.2.2.2.2.2.2.2; have HB3 := Lib.hid ((HB0.out _).trans (hb3.mono (by simp <;> omega))); have hz3 : w.heap.size + 1 ≤ w3.heap.size := (by have := hb3.size; simp at this; omega); have HF3 := Lib.hid (fun o : Obj => hf3.below (w' := w3.alloc o) ((Below.refl _ _).alloc (Nat.le_refl _) o)); clear hv3 hb3 hf3 h1)
   | (go_at_call 23; go_loud ((with_reducible refine (refcmp_at (fuel + 1) f (form f false) _ _ _ B w3.heap.size ((FAt.up (Nat.le_succ _) HF.out).below ((HB3.out.alloc (by omega) _).mono hB)) (HF3.out _) (by simp; omega) (by simp)).mono ?_); rintro e w5 ⟨rfl, hb5⟩; rw [HZ.out]; have HB5 := Lib.hid ((HB3.out.alloc (by omega) _).trans (hb5.mono (by simp; omega))); clear hb5)))
  go_ret
  refine ⟨?_, HB5.out⟩
  unfold isN
  rw [HZ.out, decide_eq_true HMY.out]
  simp
  first | rfl | exact Bool.beq_eq_decide_eq _ _
 ·have hc1 : ¬ c = 0 := fun h => hm (check_ok.1 (by rw [hcc]; exact h))
  have HMY := Lib.hid hm
  clear hm hcc
  go_enter Tryz.func8, Tryz.ntmps8
  go_wp2_with (first
   | (go_at_call 7; (with_reducible refine (rnormal_p fuel f _ _ B (HF.out.below ((HB0.out _).mono hB)) (by simp <;> omega)).mono ?_); rintro e w3 ⟨v3, rfl, -, hv3, hb3⟩; rw [HCC.out]; have hf3 := hv3 HMY.out; subst hf3; have HB3 := Lib.hid ((HB0.out _).trans (hb3.mono (by simp <;> omega))); have hz3 := hb3.size; simp at hz3; clear hv3 hb3))
  go_ret
  refine ⟨?_, HB3.out.alloc (by omega) _⟩
  unfold isN
  rw [decide_eq_false HMY.out]
  simp
end Go.Proofs.YtdkfmckbeagenaaGreatDoor

namespace Go.Proofs.YtdkfmckbeagenaaGreatDoor
open Go.RowKit Go.FltLaw Go.Lib Go.RankLaw

set_option maxHeartbeats 1600000 in
set_option maxRecDepth 100000 in
theorem sis_p (fuel : Nat) (f : Flt) (v : Value) (w : World) (B : Nat) (hF : FAt false w 0 B fuel f v) (hB : B ≤ w.heap.size) (hv : MaxVar w) (hM : 1 < w.heap.size) :
  Calls Tryz.prog 12 #[v] w fun e w' => e = .returned (.bool (isN f)) ∧ Below w.heap.size w w' := by
 have HF := Lib.hid hF
 have hb0 : ∀ o, Below w.heap.size w (w.alloc o) := fun o => (Below.refl _ w).alloc (Nat.le_refl _) o
 have HB0 := Lib.hid hb0
 have HV := Lib.hid hv
 obtain ⟨k2, A2, m2, c2', s2, s3, s4, A5, m5, q5, s6, s7, x8, rfl⟩ := (FAt.formF hF)
 have hfb := heap_alloc_new w (.cells #[.int .i8 k2, .slice A2 m2 c2', .string ⟨s2.toArray⟩, .string ⟨s3.toArray⟩, .string ⟨s4.toArray⟩, .slice A5 m5 q5, .string ⟨s6.toArray⟩, .string ⟨s7.toArray⟩, .bool x8] 26)
 have HFB := Lib.hid hfb
 clear hF hb0 hfb hv
 generalize hcc : check f = cc
 obtain ⟨c, n, d⟩ := cc
 have HCC := Lib.hid hcc
 by_cases hm : FltLaw.may f
 ·have hc0 : c = 0 := by have := may_check0 hm; rw [hcc] at this; exact this
  subst hc0
  have HMY := Lib.hid hm
  obtain ⟨z, hz⟩ : ∃ z, num (order f (form f false)) = z := ⟨_, rfl⟩
  have HZ := Lib.hid hz
  clear hm hcc hz
  go_enter Tryz.func12, Tryz.ntmps12
  go_wp2_with (first
   | (go_at_call 10; (with_reducible refine (normalO_p fuel f _ _ B (HF.out.below ((HB0.out _).mono hB)) (by simp <;> omega) (HV.out.below (HB0.out _) hM) (by simp <;> omega)).mono ?_); rintro e w3 ⟨v3, rfl, hv3, -, hb3⟩; rw [HCC.out]; have hf3 := (hv3 HMY.out).at.wide (Nat.zero_le _) (Nat.le_refl _); obtain ⟨k4, A4, n4, d4, r2, r3, r4, A6, n6, d6, r6, r7, x4, rfl⟩ := (FAt.formF hf3); have h1 := fun o => kb_alloc (o' := o) ((hb3.block w.heap.size (by simp <;> omega)).trans HFB.out); have H1 := Lib.hid h1; have e0 := fun o => (nine_heap (h1 o)).1; have e1 := fun o => (nine_heap (h1 o)).2.1; have e2 := fun o => (nine_heap (h1 o)).2.2.1; have e3 := fun o => (nine_heap (h1 o)).2.2.2.1; have e4 := fun o => (nine_heap (h1 o)).2.2.2.2.1; have e5 := fun o => (nine_heap (h1 o)).2.2.2.2.2.1; have e6 := fun o => (nine_heap (h1 o)).2.2.2.2.2.2.1; have e7 := fun o => (nine_heap (h1 o)).2.2.2.2.2.2.2.1; have e8 := fun o => (nine_heap (h1 o)).2.2.2.2.2.2.2.2; have HB3 := Lib.hid ((HB0.out _).trans (hb3.mono (by simp <;> omega))); have hz3 : w.heap.size + 1 ≤ w3.heap.size := (by have := hb3.size; simp at this; omega); have HF3 := Lib.hid (fun o : Obj => hf3.below (w' := w3.alloc o) ((Below.refl _ _).alloc (Nat.le_refl _) o)); clear hv3 hb3 hf3 h1)
   | (go_at_call 27; go_loud ((with_reducible refine (cmp_p (fuel + 1) f (form f false) _ _ _ B w3.heap.size ((FAt.up (Nat.le_succ _) HF.out).below ((HB3.out.alloc (by omega) _).mono hB)) (HF3.out _) (by simp; omega) (by simp) (HV.out.below (HB3.out.alloc (by omega) _) hM) (by simp; omega)).mono ?_); rintro e w5 ⟨rfl, hb5⟩; rw [HZ.out]; have HB5 := Lib.hid ((HB3.out.alloc (by omega) _).trans (hb5.mono (by simp; omega))); clear hb5)))
  go_ret
  refine ⟨?_, HB5.out⟩
  unfold isN
  rw [HZ.out, decide_eq_true HMY.out]
  simp
  first | rfl | exact Bool.beq_eq_decide_eq _ _
 ·have hc1 : ¬ c = 0 := fun h => hm (check_ok.1 (by rw [hcc]; exact h))
  have HMY := Lib.hid hm
  clear hm hcc
  go_enter Tryz.func12, Tryz.ntmps12
  go_wp2_with (first
   | (go_at_call 10; (with_reducible refine (normalO_p fuel f _ _ B (HF.out.below ((HB0.out _).mono hB)) (by simp <;> omega) (HV.out.below (HB0.out _) hM) (by simp <;> omega)).mono ?_); rintro e w3 ⟨v3, rfl, -, hv3, hb3⟩; rw [HCC.out]; have hf3 := hv3 HMY.out; subst hf3; have HB3 := Lib.hid ((HB0.out _).trans (hb3.mono (by simp <;> omega))); have hz3 := hb3.size; simp at hz3; clear hv3 hb3))
  go_ret
  refine ⟨?_, HB3.out.alloc (by omega) _⟩
  unfold isN
  rw [decide_eq_false HMY.out]
  simp
end Go.Proofs.YtdkfmckbeagenaaGreatDoor

namespace Go.FltLaw
theorem right_item {k : Int} {kids : Nat} {ds vl st : List UInt8} {ms : List (List UInt8)} {fn rl : List UInt8} {dn : Bool} (h : right k kids ds vl st ms fn rl dn = true) (hk : 2 < k) : kids = 0 := by
 unfold right at h
 rw [if_neg (by omega)] at h
 by_cases h9 : k = 9
 ·rw [if_pos h9] at h; simp at h; exact h.1.1.1.1
 ·rw [if_neg h9] at h
  by_cases h4 : k = 4
  ·rw [if_pos h4] at h; simp at h; exact h.1.1.1.1.2
  ·rw [if_neg h4] at h
   by_cases h7 : k = 7
   ·rw [if_pos h7] at h; simp at h; exact h.1.1.1.1
   ·rw [if_neg h7] at h
    by_cases h3 : k = 3 ∨ k = 5 ∨ k = 6 ∨ k = 8
    ·rw [if_pos h3] at h; simp at h; exact h.1.1.1
    ·rw [if_neg h3] at h; cases h
theorem right_none {k : Int} {kids : Nat} {ds vl st : List UInt8} {ms : List (List UInt8)} {fn rl : List UInt8} {dn : Bool} (h : right k kids ds vl st ms fn rl dn = true) (hk : ¬ 2 < k) : ms = [] := by
 unfold right at h
 by_cases h0 : k = 0 ∨ k = 1 ∨ k = 2
 ·rw [if_pos h0] at h
  simp at h
  exact h.1.2.2
 ·rw [if_neg h0, if_neg (by omega), if_neg (by omega), if_neg (by omega), if_neg (by omega)] at h
  cases h
def kof (d : Nat) : Nat := 8796093022208 + 19 * d + 19
theorem kof_mono {a b : Nat} (h : a ≤ b) : kof a ≤ kof b := by unfold kof; omega
theorem tots_le : ∀ {ks : List Flt}, (∀ x ∈ ks, tot x ≤ size x * kof (deep x)) → tots ks ≤ sizes ks * kof (deeps ks)
 | [], _ => by simp [tots]
 | x :: ks, h => by
  have h1 := h x (by simp)
  have h2 := tots_le (ks := ks) fun y hy => h y (by simp [hy])
  have h3 : size x * kof (deep x) ≤ size x * kof (max (deep x) (deeps ks)) := Nat.mul_le_mul_left _ (kof_mono (Nat.le_max_left _ _))
  have h4 : sizes ks * kof (deeps ks) ≤ sizes ks * kof (max (deep x) (deeps ks)) := Nat.mul_le_mul_left _ (kof_mono (Nat.le_max_right _ _))
  simp only [tots, sizes, deeps, Nat.add_mul]
  omega
end Go.FltLaw
namespace Go.Proofs.YtdkfmckbeagenaaGreatDoor
open Go.RowKit Go.FltLaw Go.Lib Go.RankLaw

theorem tot_le {w : World} : ∀ {n lo hi : Nat} {f : Flt} {v : Value}, OAt w lo hi n f v → Fine f → tot f ≤ size f * kof (deep f)
 | 0, _, _, _, _, h, _ => h.elim
 | n + 1, lo, hi, .mk k ks ds vl st ms fn rl dn, v, h, hf => by
  obtain ⟨KA, kc, MA, mc, xs, L, R, hv, hfit, hr, hm, h1, h2, hks, hLR⟩ := h
  unfold Fine at hf
  obtain ⟨_, hright, hfs⟩ := hf
  have hmn := hfit.mn1
  have hall : ∀ x ∈ ks, tot x ≤ size x * kof (deep x) := fun x hx => by
   obtain ⟨i, hi, e⟩ := List.mem_iff_getElem.1 hx
   obtain ⟨v, hv, _⟩ := hks i x (by rw [← e]; exact List.getElem?_eq_getElem hi)
   exact tot_le hv (fines_iff.1 hfs x hx)
  have hts := tots_le hall
  simp only [tot, size, deep]
  by_cases hk : 2 < k
  ·have h0 := right_item hright hk
   have hks0 : ks = [] := List.length_eq_zero_iff.1 h0
   subst hks0
   rw [if_neg (by omega)]
   simp only [tots, sizes, deeps, List.length_nil]
   unfold kof
   omega
  ·have hms := right_none hright hk
   subst hms
   obtain ⟨_, hpos⟩ := right_kind hright hk
   have hle := sizes_pos hfs
   have hkk : kof (deeps ks + 1) = kof (deeps ks) + 19 := by unfold kof; omega
   rw [hkk]
   by_cases hk2 : k = 2
   ·subst hk2
    obtain ⟨g, rfl⟩ : ∃ g, ks = [g] := by
     have hl := right_not hright
     match ks, hl with
     | [g], _ => exact ⟨g, rfl⟩
    rw [if_pos rfl]
    simp only [List.length_nil, List.length_singleton, Nat.add_zero] at hts hle ⊢
    rw [Nat.mul_add]
    have : sizes [g] * 19 ≥ 19 := by omega
    omega
   ·rw [if_neg hk2]
    simp only [List.length_nil, Nat.add_zero]
    rw [Nat.add_mul, Nat.mul_add, Nat.one_mul]
    have : 8796093022208 ≤ kof (deeps ks) := by unfold kof; omega
    omega
def zeroFlt : Flt := .mk 0 [] [] [] [] [] [] [] false
def nf (f : Flt) : Flt := if FltLaw.may f then form f false else zeroFlt
theorem zero_own (w : World) (lo hi n : Nat) : OAt w lo hi (n + 1) zeroFlt (.agg zeroF9) := by
 refine ⟨none, 0, none, 0, [], fun _ => 0, fun _ => 0, rfl, ⟨by omega, by omega, by simp, by unfold maxLen; omega, by simp, by simp, by simp, by simp, by simp, by unfold maxLen; omega, by simp, by simp, by simp, by simp⟩, World.ownsRow_nil _ _ _ _, World.ownsRow_nil _ _ _ _, ?_, ?_, ?_, ?_⟩
 ·intro b h; simp [Value.ownBlock] at h
 ·intro b h; simp [Value.ownBlock] at h
 ·intro i f h; simp at h
 ·intro i j _ h; simp at h
theorem nf_tot {w : World} {lo hi n : Nat} {f : Flt} {v : Value} (h : OAt w lo hi n (nf f) v) : tot (nf f) ≤ 4611686018427387904 := by
 unfold nf at h ⊢
 by_cases hm : FltLaw.may f
 ·rw [if_pos hm] at h ⊢
  obtain ⟨hF, hd, hs⟩ := may_iff.1 (may_form hm).1
  have h1 := tot_le h hF
  have h2 : size (form f false) * kof (deep (form f false)) ≤ 65536 * kof 64 := Nat.mul_le_mul hs (kof_mono hd)
  have h3 : 65536 * kof 64 ≤ 4611686018427387904 := by decide
  omega
 ·rw [if_neg hm]
  decide
theorem tot_18 (f : Flt) : 18 ≤ tot f := by cases f; simp only [tot]; omega
theorem rnormal_q (fuel : Nat) (f : Flt) (v : Value) (w : World) (B : Nat) (hF : FAt false w 0 B fuel f v) (hB : B ≤ w.heap.size) {c : Int} (hc : (check f).1 = c) :
  Calls Tryz.prog 7 #[v] w fun e w' => ∃ v', e = .returned (.tuple #[v', .int .i64 c]) ∧ FAt false w' 0 w'.heap.size (fuel + 1) (nf f) v' ∧ Below w.heap.size w w' :=
 (rnormal_p fuel f v w B hF hB).mono fun e w' ⟨v', h1, h2, h3, h4⟩ => by
  refine ⟨v', by rw [← hc]; exact h1, ?_, h4⟩
  unfold nf
  by_cases hm : FltLaw.may f
  ·rw [if_pos hm]; exact h2 hm
  ·rw [if_neg hm, h3 hm]; exact (zero_own w' 0 w'.heap.size fuel).at
theorem normalO_q (fuel : Nat) (f : Flt) (v : Value) (w : World) (B : Nat) (hF : FAt false w 0 B fuel f v) (hB : B ≤ w.heap.size) (hv : MaxVar w) (hM : 1 < w.heap.size) {c : Int} (hc : (check f).1 = c) :
  Calls Tryz.prog 10 #[v] w fun e w' => ∃ v', e = .returned (.tuple #[v', .int .i64 c]) ∧ OAt w' w.heap.size w'.heap.size (fuel + 1) (nf f) v' ∧ Below w.heap.size w w' :=
 (normalO_p fuel f v w B hF hB hv hM).mono fun e w' ⟨v', h1, h2, h3, h4⟩ => by
  refine ⟨v', by rw [← hc]; exact h1, ?_, h4⟩
  unfold nf
  by_cases hm : FltLaw.may f
  ·rw [if_pos hm]; exact h2 hm
  ·rw [if_neg hm, h3 hm]; exact zero_own _ _ _ _
structure Nor (W wr : World) (n : Nat) (f G : Flt) (fb wb mb bb : Array Value) (b3 b6 b7 b9 : Nat) : Prop where
 below : Below W.heap.size W wr
 ord : W.heap.size < b3 ∧ b3 < b6 ∧ b6 < b7 ∧ b7 < b9 ∧ b9 < wr.heap.size
 f1 : wr.heap[W.heap.size]? = some (.cells fb 26 (0, 0))
 w1 : wr.heap[b3]? = some (.cells wb 26 (0, 0))
 m1 : wr.heap[b6]? = some (.cells mb 26 (0, 0))
 b1 : wr.heap[b9]? = some (.cells bb 26 (0, 0))
 ff : FAt false wr 0 W.heap.size n f (.agg fb)
 wf : FAt false wr 0 b3 (n + 1) G (.agg wb)
 mf : MAt wr (b3 + 1) b6 n f (.agg mb)
 bf : FAt false wr (b7 + 1) b9 (n + 1) G (.agg bb)
structure Fst (wr : World) (n : Nat) (G : Flt) (ab : Array Value) (b6 b7 : Nat) : Prop where
 a1 : wr.heap[b7]? = some (.cells ab 26 (0, 0))
 af : OAt wr (b6 + 1) b7 (n + 1) G (.agg ab)
section
variable {W wr w' : World} {n : Nat} {f G : Flt} {fb wb mb bb ab : Array Value} {b3 b6 b7 b9 : Nat}
theorem Nor.later (h : Nor W wr n f G fb wb mb bb b3 b6 b7 b9) (hs : Spared (b6 + 1) b7 wr w') : Nor W w' n f G fb wb mb bb b3 b6 b7 b9 := by
 obtain ⟨o1, o2, o3, o4, o5⟩ := h.ord
 have hz := hs.size
 refine ⟨h.below.trans (hs.kept (by omega) (by omega)), ⟨o1, o2, o3, o4, by omega⟩, (hs.block _ (by omega) (by omega)).trans h.f1, (hs.block _ (by omega) (by omega)).trans h.w1, (hs.block _ (by omega) (by omega)).trans h.m1, (hs.block _ (by omega) (by omega)).trans h.b1,
  h.ff.keep fun p _ h2 => World.cell?_of_block (hs.block _ (by omega) (by omega)), h.wf.keep fun p _ h2 => World.cell?_of_block (hs.block _ (by omega) (by omega)), MAt.keep (fun b _ h2 => hs.block _ (by omega) (by omega)) h.mf, h.bf.keep fun p h1 h2 => World.cell?_of_block (hs.block _ (by omega) (by omega))⟩
theorem Nor.on (h : Nor W wr n f G fb wb mb bb b3 b6 b7 b9) (hb : Below wr.heap.size wr w') : Nor W w' n f G fb wb mb bb b3 b6 b7 b9 := h.later (Spared.below hb)
theorem Fst.on (h : Fst wr n G ab b6 b7) (hb : Below wr.heap.size wr w') (h7 : b7 < wr.heap.size) : Fst w' n G ab b6 b7 := ⟨(hb.block _ h7).trans h.a1, h.af.keep fun b _ h2 => hb.block _ (by omega)⟩
end
end Go.Proofs.YtdkfmckbeagenaaGreatDoor
