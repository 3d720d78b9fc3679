/-
  rosterlaw16.ShapeOrder, walked.
-/
import Derived.Test.YtdkfmckbeagenaaGreatDoorQE5
namespace Go.Proofs.YtdkfmckbeagenaaGreatDoor
open Go.RowKit Go.FltLaw Go.Lib Go.RankLaw

set_option maxHeartbeats 6400000 in
set_option maxRecDepth 100000 in
theorem shapeOrder_walked (W : World) (hal : Wakes16 W) (n : Nat) (f g : Flt) (vf vg : Value) (hF : FAt false W 0 W.heap.size n f vf) (hG : FAt false W 0 W.heap.size n g vg) (hv : MaxVar W) (hM : 1 < W.heap.size) :
    Calls Tryz.prog 5 #[vf, vg] W fun e w' => e = .returned (.bool true) ∧ Below W.heap.size W w' := by
  have HAL := Lib.hid hal
  have HF := Lib.hid hF
  have HG := Lib.hid hG
  have HV := Lib.hid hv
  obtain ⟨kf, Af, nf, cf, f2, f3, f4, Bf, mf, df, f6, f7, xf, rfl⟩ := (FAt.formF hF)
  obtain ⟨kg, Ag, ng, cg, g2, g3, g4, Bg, mg, dg, g6, g7, xg, rfl⟩ := (FAt.formF hG)
  have hp0 := pair_start W #[.int .i8 kf, .slice Af nf cf, .string ⟨f2.toArray⟩, .string ⟨f3.toArray⟩, .string ⟨f4.toArray⟩, .slice Bf mf df, .string ⟨f6.toArray⟩, .string ⟨f7.toArray⟩, .bool xf] #[.int .i8 kg, .slice Ag ng cg, .string ⟨g2.toArray⟩, .string ⟨g3.toArray⟩, .string ⟨g4.toArray⟩, .slice Bg mg dg, .string ⟨g6.toArray⟩, .string ⟨g7.toArray⟩, .bool xg]
  have HP0 := Lib.hid hp0
  clear hal hF hG hv hp0
  go_enter Tryz.func5, Tryz.ntmps5
  go_upto_region 4 with (first
    | (go_at_call 6; (with_reducible refine (heavy16 n f _ _ W.heap.size (HF.out.below HP0.out.below) (by simp; omega)).mono ?_); rintro e w2 ⟨x, rfl, hb2⟩; have HP2 := Lib.hid (HP0.out.later (hb2.mono (by simp))); obtain ⟨⟨i0, i1, i2, i3, i4, i5, i6, i7, i8⟩, j0, j1, j2, j3, j4, j5, j6, j7, j8⟩ := HP2.out.nine; have hz2 := HP2.out.size; clear hb2)
    | (go_at_call 6; (with_reducible refine (heavy16 n g _ _ W.heap.size (HG.out.below HP2.out.below) (by omega)).mono ?_); rintro e w3 ⟨y, rfl, hb3⟩; have HP3 := Lib.hid (HP2.out.later (hb3.mono (by omega))); clear hb3))
  · go_ret
    exact ⟨rfl, HP2.out.below⟩
  · go_ret
    exact ⟨rfl, HP3.out.below⟩
  · subst_vars
    have HPS := Lib.hid HP3.out
    clear HP0 HP2 HP3 i0 i1 i2 i3 i4 i5 i6 i7 i8 j0 j1 j2 j3 j4 j5 j6 j7 j8 hz2
    go_loopw [5] (fun i wr => ∃ kk : Int, 0 ≤ kk ∧ kk ≤ 2 ∧ i = .int .i8 kk ∧ Pair W wr #[.int .i8 kf, .slice Af nf cf, .string ⟨f2.toArray⟩, .string ⟨f3.toArray⟩, .string ⟨f4.toArray⟩, .slice Bf mf df, .string ⟨f6.toArray⟩, .string ⟨f7.toArray⟩, .bool xf] #[.int .i8 kg, .slice Ag ng cg, .string ⟨g2.toArray⟩, .string ⟨g3.toArray⟩, .string ⟨g4.toArray⟩, .slice Bg mg dg, .string ⟨g6.toArray⟩, .string ⟨g7.toArray⟩, .bool xg]) (fun i _ => 2 - (RowKit.intOf i).toNat)
    case atStart => exact ⟨0, by omega, by omega, rfl, HPS.out⟩
    case round =>
      clear HPS
      obtain ⟨kk, hk0, hk2, rfl, hP⟩ := hrel
      have HP := Lib.hid hP
      have hsz := hP.size
      obtain ⟨⟨i0, i1, i2, i3, i4, i5, i6, i7, i8⟩, j0, j1, j2, j3, j4, j5, j6, j7, j8⟩ := hP.nine
      have HVR := Lib.hid (HV.out.below hP.below hM)
      have HFR := Lib.hid ((HF.out.below hP.below).wide (Nat.le_refl _) (show W.heap.size ≤ wr.heap.size by omega))
      have HGR := Lib.hid ((HG.out.below hP.below).wide (Nat.le_refl _) (show W.heap.size ≤ wr.heap.size by omega))
      clear hP
      by_cases hlt : kk ≤ 1
      · have hk01 : kk = 0 ∨ kk = 1 := by omega
        have HK := Lib.hid hk01
        have HBU := Lib.hid (fun o1 o4 t t3 t4 => built (o1 := o1) (o4 := o4) (t := t) (t3 := t3) (t4 := t4) (cs2 := #[.int .i8 kf, .slice Af nf cf, .string ⟨f2.toArray⟩, .string ⟨f3.toArray⟩, .string ⟨f4.toArray⟩, .slice Bf mf df, .string ⟨f6.toArray⟩, .string ⟨f7.toArray⟩, .bool xf, .int .i8 kg, .slice Ag ng cg, .string ⟨g2.toArray⟩, .string ⟨g3.toArray⟩, .string ⟨g4.toArray⟩, .slice Bg mg dg, .string ⟨g6.toArray⟩, .string ⟨g7.toArray⟩, .bool xg]) (cs3 := #[.int .i8 kf, .slice Af nf cf, .string ⟨f2.toArray⟩, .string ⟨f3.toArray⟩, .string ⟨f4.toArray⟩, .slice Bf mf df, .string ⟨f6.toArray⟩, .string ⟨f7.toArray⟩, .bool xf, .int .i8 kg, .slice Ag ng cg, .string ⟨g2.toArray⟩, .string ⟨g3.toArray⟩, .string ⟨g4.toArray⟩, .slice Bg mg dg, .string ⟨g6.toArray⟩, .string ⟨g7.toArray⟩, .bool xg, .int .i8 kf, .slice Af nf cf, .string ⟨f2.toArray⟩, .string ⟨f3.toArray⟩, .string ⟨f4.toArray⟩, .slice Bf mf df, .string ⟨f6.toArray⟩, .string ⟨f7.toArray⟩, .bool xf]) (cs4 := #[.int .i8 kg, .slice Ag ng cg, .string ⟨g2.toArray⟩, .string ⟨g3.toArray⟩, .string ⟨g4.toArray⟩, .slice Bg mg dg, .string ⟨g6.toArray⟩, .string ⟨g7.toArray⟩, .bool xg, .int .i8 kk, .slice (some ⟨wr.heap.size + 1 + 1, 0, none⟩) 3 3, .string ⟨#[]⟩, .string ⟨#[]⟩, .string ⟨#[]⟩, .slice none 0 0, .string ⟨#[]⟩, .string ⟨#[]⟩, .bool false]) hk01 HFR.out HGR.out rfl rfl rfl)
        have HB5 := Lib.hid (fun o0 o1 o2 o3 o4 => alloc5_below wr o0 o1 o2 o3 o4)
        have HA5 := Lib.hid (fun o0 o1 o2 o3 o4 => alloc5_at wr o0 o1 o2 o3 o4)
        have HP2A := Lib.hid (fun o o' => HP.out.later (((Below.refl _ _).alloc hsz o).alloc (by simp; omega) o'))
        clear hk01
        have HPA := (fun o o' => (HP2A.out o o').nine)
        have p0 := (fun o o' => (HPA o o').1.1)
        have p1 := (fun o o' => (HPA o o').1.2.1)
        have p2 := (fun o o' => (HPA o o').1.2.2.1)
        have p3 := (fun o o' => (HPA o o').1.2.2.2.1)
        have p4 := (fun o o' => (HPA o o').1.2.2.2.2.1)
        have p5 := (fun o o' => (HPA o o').1.2.2.2.2.2.1)
        have p6 := (fun o o' => (HPA o o').1.2.2.2.2.2.2.1)
        have p7 := (fun o o' => (HPA o o').1.2.2.2.2.2.2.2.1)
        have p8 := (fun o o' => (HPA o o').1.2.2.2.2.2.2.2.2)
        have q0 := (fun o o' => (HPA o o').2.1)
        have q1 := (fun o o' => (HPA o o').2.2.1)
        have q2 := (fun o o' => (HPA o o').2.2.2.1)
        have q3 := (fun o o' => (HPA o o').2.2.2.2.1)
        have q4 := (fun o o' => (HPA o o').2.2.2.2.2.1)
        have q5 := (fun o o' => (HPA o o').2.2.2.2.2.2.1)
        have q6 := (fun o o' => (HPA o o').2.2.2.2.2.2.2.1)
        have q7 := (fun o o' => (HPA o o').2.2.2.2.2.2.2.2.1)
        have q8 := (fun o o' => (HPA o o').2.2.2.2.2.2.2.2.2)
        clear HPA
        by_cases hm : FltLaw.may (juncF kk [g, juncF kk [f, g, f]])
        · have hc := may_check0 hm
          obtain ⟨hmb, hff, hfg⟩ := may_both HK.out hm
          have hcb := may_check0 hmb
          have HM1 := Lib.hid hm
          have HMB := Lib.hid hmb
          have HFM := Lib.hid (form_more HK.out hff hfg)
          clear hm hmb hff hfg
          go_wp2_with (first
            | (go_at_call 17; (with_reducible refine (check_p false 0 _ (n + 2) _ _ _ (HBU.out _ _ _ _ _).2 (Nat.le_refl _) (HVR.out.below (HB5.out _ _ _ _ _) (by omega)) (by simp <;> omega)).mono ?_); rintro e w6 ⟨rfl, hb6⟩; rw [hc]; have hz6 : wr.heap.size + 5 ≤ w6.heap.size := (by have := hb6.size; simp at this; omega); have HBB := Lib.hid ((hb6.block (wr.heap.size + 1) (by simp <;> omega)).trans (HA5.out _ _ _ _ _).1); have HMM := Lib.hid ((hb6.block (wr.heap.size + 1 + 1 + 1 + 1) (by simp <;> omega)).trans (HA5.out _ _ _ _ _).2); obtain ⟨b0, b1, b2, b3, b4, b5, b6, b7, b8⟩ := nine_heap HBB.out; have HFB6 := Lib.hid (((HBU.out _ _ _ _ _).1.below hb6).wide (Nat.le_refl 0) hb6.size); have HFM6 := Lib.hid (((HBU.out _ _ _ _ _).2.below hb6).wide (Nat.le_refl 0) hb6.size); have HB6 := Lib.hid ((HB5.out _ _ _ _ _).trans (hb6.mono (by simp <;> omega))); have HV6 := Lib.hid (HVR.out.below HB6.out (by omega)); clear hb6)
            | (go_at_call 10; (with_reducible refine (normal_p (n + 2) (juncF kk [f, g]) _ w6 _ HFB6.out (Nat.le_refl _) HV6.out (by omega)).mono ?_); rintro e w7 ⟨v7, rfl, hf7, _, hb7⟩; have hf7 := hf7 HMB.out; obtain ⟨ka, Aa, na, ca, a2, a3, a4, Ba, ma, da, a6, a7, xa, rfl⟩ := (FAt.formF hf7); rw [hcb]; have HF7 := Lib.hid hf7; have hz7 := hb7.size; have HB7 := Lib.hid (HB6.out.trans (hb7.mono (by omega))); have HV7 := Lib.hid (HV6.out.below hb7 (by omega)); have HMM7 := Lib.hid ((hb7.block (wr.heap.size + 1 + 1 + 1 + 1) (by omega)).trans HMM.out); have m0 := (fun o => (nine_heap (kb_alloc (o' := o) HMM7.out)).1); have m1 := (fun o => (nine_heap (kb_alloc (o' := o) HMM7.out)).2.1); have m2 := (fun o => (nine_heap (kb_alloc (o' := o) HMM7.out)).2.2.1); have m3 := (fun o => (nine_heap (kb_alloc (o' := o) HMM7.out)).2.2.2.1); have m4 := (fun o => (nine_heap (kb_alloc (o' := o) HMM7.out)).2.2.2.2.1); have m5 := (fun o => (nine_heap (kb_alloc (o' := o) HMM7.out)).2.2.2.2.2.1); have m6 := (fun o => (nine_heap (kb_alloc (o' := o) HMM7.out)).2.2.2.2.2.2.1); have m7 := (fun o => (nine_heap (kb_alloc (o' := o) HMM7.out)).2.2.2.2.2.2.2.1); have m8 := (fun o => (nine_heap (kb_alloc (o' := o) HMM7.out)).2.2.2.2.2.2.2.2); have HFM7 := Lib.hid (fun o => (HFM6.out.below hb7).below ((alloc1_below w7 o).mono hz7)); clear hf7 hb7)
            | (go_at_call 10; (with_reducible refine (normal_p (n + 2) (juncF kk [g, juncF kk [f, g, f]]) _ (w7.alloc (.cells #[.int .i8 ka, .slice Aa na ca, .string ⟨a2.toArray⟩, .string ⟨a3.toArray⟩, .string ⟨a4.toArray⟩, .slice Ba ma da, .string ⟨a6.toArray⟩, .string ⟨a7.toArray⟩, .bool xa] 26)) w6.heap.size (HFM7.out _) (by simp; omega) (HV7.out.below (alloc1_below w7 _) (by omega)) (by simp; omega)).mono ?_); rintro e w8 ⟨v8, rfl, hf8, _, hb8⟩; have hf8 := hf8 HM1.out; rw [HFM.out] at hf8; obtain ⟨kb, Ab, nb, cb, b2, b3, b4, Bb, mb, db, b6, b7, xb, rfl⟩ := (FAt.formF hf8); rw [hc]; have hz8 : w7.heap.size + 1 ≤ w8.heap.size := (by have := hb8.size; simpa using this); have HB78 := Lib.hid ((alloc1_below w7 _).trans (hb8.mono (by simp))); have HA8 := Lib.hid ((hb8.block w7.heap.size (by simp)).trans (heap_alloc_new w7 _)); have t0 := (fun o => (nine_heap (kb_alloc (o' := o) HA8.out)).1); have t1 := (fun o => (nine_heap (kb_alloc (o' := o) HA8.out)).2.1); have t2 := (fun o => (nine_heap (kb_alloc (o' := o) HA8.out)).2.2.1); have t3 := (fun o => (nine_heap (kb_alloc (o' := o) HA8.out)).2.2.2.1); have t4 := (fun o => (nine_heap (kb_alloc (o' := o) HA8.out)).2.2.2.2.1); have t5 := (fun o => (nine_heap (kb_alloc (o' := o) HA8.out)).2.2.2.2.2.1); have t6 := (fun o => (nine_heap (kb_alloc (o' := o) HA8.out)).2.2.2.2.2.2.1); have t7 := (fun o => (nine_heap (kb_alloc (o' := o) HA8.out)).2.2.2.2.2.2.2.1); have t8 := (fun o => (nine_heap (kb_alloc (o' := o) HA8.out)).2.2.2.2.2.2.2.2); have HX := Lib.hid (fun o => (HF7.out.wide (Nat.zero_le _) (Nat.le_refl _)).below (HB78.out.trans ((alloc1_below w8 o).mono (by omega)))); have HY := Lib.hid (fun o => (hf8.wide (Nat.zero_le _) (Nat.le_refl _)).below (alloc1_below w8 o)); have HB8 := Lib.hid (HB7.out.trans (HB78.out.mono (by omega))); clear hf8 hb8)
            | (go_at_call 11; (with_reducible refine (same16 (n + 3) (form (juncF kk [f, g]) false) _ _ (w8.alloc (.cells #[.int .i8 kb, .slice Ab nb cb, .string ⟨b2.toArray⟩, .string ⟨b3.toArray⟩, .string ⟨b4.toArray⟩, .slice Bb mb db, .string ⟨b6.toArray⟩, .string ⟨b7.toArray⟩, .bool xb] 26)) w7.heap.size w8.heap.size (HX.out _) (HY.out _) (by simp; omega) (by simp)).mono ?_); rintro e w9 ⟨rfl, hb9⟩; have HB9 := Lib.hid (HB8.out.trans (((alloc1_below w8 _).trans (hb9.mono (by simp))).mono (by omega))); clear hb9))
          go_round
          case rel => exact ⟨kk + 1, by omega, by omega, rfl, HP.out.later (HB9.out.mono (by omega))⟩
          case measure => simp [RowKit.intOf]; omega
        · have hc0 : (check (juncF kk [g, juncF kk [f, g, f]])).1 ≠ 0 := fun h => hm (check_ok.1 h)
          generalize hcc : check (juncF kk [g, juncF kk [f, g, f]]) = cc at hc0
          obtain ⟨c, n', d'⟩ := cc
          have HCC := Lib.hid hcc
          have hc1 : ¬ c = 0 := hc0
          clear hm hc0 hcc
          go_wp2_with (first
            | (go_at_call 17; (with_reducible refine (check_p false 0 _ (n + 2) _ _ _ (HBU.out _ _ _ _ _).2 (Nat.le_refl _) (HVR.out.below (HB5.out _ _ _ _ _) (by omega)) (by simp <;> omega)).mono ?_); rintro e w6 ⟨rfl, hb6⟩; rw [HCC.out]; have HB6 := Lib.hid ((HB5.out _ _ _ _ _).trans (hb6.mono (by simp <;> omega))); clear hb6))
          go_round
          case rel => exact ⟨kk + 1, by omega, by omega, rfl, HP.out.later (HB6.out.mono (by omega))⟩
          case measure => simp [RowKit.intOf]; omega
      · clear j0 j1 j2 j3 j4 j5 j6 j7 j8
        by_cases hm : FltLaw.may (notF (notF f))
        · have hc := may_check0 hm
          obtain ⟨hmf, hmn, hmm⟩ := may_nots hm
          have hcf := may_check0 hmf
          have hcn := may_check0 hmn
          have hcm := may_check0 hmm
          have HMNN := Lib.hid hm
          have HMF := Lib.hid hmf
          have HMN := Lib.hid hmn
          have HMM := Lib.hid hmm
          have HNF := Lib.hid (form_not_form (may_iff.1 hmf).1)
          clear hm hmf hmn hmm
          go_wp2_with (first
            | (go_at_call 18; (with_reducible refine (turned16 n f _ wr _ HFR.out (Nat.le_refl _)).mono ?_); rintro e w1 ⟨v1, rfl, hf, hb⟩; have hz1 := hb.size; have hst := hb; have HP1 := Lib.hid (HP.out.later (hst.mono (by omega))); have HV1 := Lib.hid (HVR.out.below hst (by omega)); have HF1 := Lib.hid hf; clear hf hb hst)
            | (go_at_call 18; (with_reducible refine (turned16 (n + 1) (notF f) _ w1 _ HF1.out (Nat.le_refl _)).mono ?_); rintro e w2 ⟨v2, rfl, hf, hb⟩; have hz2 := hb.size; have hst := hb; have HP2 := Lib.hid (HP1.out.later (hst.mono (by omega))); have HV2 := Lib.hid (HV1.out.below hst (by omega)); have HF2 := Lib.hid hf; clear hf hb hst)
            | (go_at_call 17; (with_reducible refine (check_p false 0 _ (n + 2) (notF (notF f)) _ w2 HF2.out (Nat.le_refl _) HV2.out (by omega)).mono ?_); rintro e w3 ⟨rfl, hb⟩; rw [hc]; have hz3 := hb.size; have hst := hb; have HP3 := Lib.hid (HP2.out.later (hst.mono (by omega))); have HV3 := Lib.hid (HV2.out.below hst (by omega)); obtain ⟨p0, p1, p2, p3, p4, p5, p6, p7, p8⟩ := HP3.out.nine.1; have HF3 := Lib.hid ((HF.out.below HP3.out.below).wide (Nat.le_refl 0) (show W.heap.size ≤ w3.heap.size by omega)); clear hb hst)
            | (go_at_call 10; (with_reducible refine (normal_p n f _ w3 _ HF3.out (Nat.le_refl _) HV3.out (by omega)).mono ?_); rintro e w4 ⟨v4, rfl, hf, _, hb⟩; have hf := hf HMF.out; obtain ⟨ka, Aa, na, ca, a2, a3, a4, Ba, ma, da, a6, a7, xa, rfl⟩ := (FAt.formF hf); rw [hcf]; have hz4 := hb.size; have hst := hb; have HP4 := Lib.hid (HP3.out.later (hst.mono (by omega))); have HV4 := Lib.hid (HV3.out.below hst (by omega)); have HXa := Lib.hid hf; have HQA := (fun o => (HP4.out.later ((alloc1_below w4 o).mono (by omega))).nine.1); have q0 := (fun o => (HQA o).1); have q1 := (fun o => (HQA o).2.1); have q2 := (fun o => (HQA o).2.2.1); have q3 := (fun o => (HQA o).2.2.2.1); have q4 := (fun o => (HQA o).2.2.2.2.1); have q5 := (fun o => (HQA o).2.2.2.2.2.1); have q6 := (fun o => (HQA o).2.2.2.2.2.2.1); have q7 := (fun o => (HQA o).2.2.2.2.2.2.2.1); have q8 := (fun o => (HQA o).2.2.2.2.2.2.2.2); clear HQA; clear hf hb hst)
            | (go_at_call 18; (with_reducible refine (turned16 n f _ (w4.alloc (.cells #[.int .i8 ka, .slice Aa na ca, .string ⟨a2.toArray⟩, .string ⟨a3.toArray⟩, .string ⟨a4.toArray⟩, .slice Ba ma da, .string ⟨a6.toArray⟩, .string ⟨a7.toArray⟩, .bool xa] 26)) W.heap.size (HF.out.below (HP4.out.below.trans ((alloc1_below w4 _).mono (by omega)))) (by simp; omega)).mono ?_); rintro e w5 ⟨v5, rfl, hf, hb⟩; have hz5 : w4.heap.size + 1 ≤ w5.heap.size := (by have := hb.size; simpa using this); have hst := (alloc1_below w4 _).trans (hb.mono (by simp)); have HP5 := Lib.hid (HP4.out.later (hst.mono (by omega))); have HV5 := Lib.hid (HV4.out.below hst (by omega)); have HB4_5 := Lib.hid hst; have HF5 := Lib.hid hf; have HA5 := Lib.hid ((hb.block w4.heap.size (by simp)).trans (heap_alloc_new w4 _)); clear hf hb hst)
            | (go_at_call 10; (with_reducible refine (normal_p (n + 1) (notF f) _ w5 _ HF5.out (Nat.le_refl _) HV5.out (by omega)).mono ?_); rintro e w6 ⟨v6, rfl, hf, _, hb⟩; have hf := hf HMN.out; obtain ⟨kb, Ab, nb, cb, b2, b3, b4, Bb, mb, db, b6, b7, xb, rfl⟩ := (FAt.formF hf); rw [hcn]; have hz6 := hb.size; have hst := hb; have HP6 := Lib.hid (HP5.out.later (hst.mono (by omega))); have HV6 := Lib.hid (HV5.out.below hst (by omega)); have HB4_6 := Lib.hid (HB4_5.out.trans (hst.mono (by omega))); have HXb := Lib.hid hf; have HA6 := Lib.hid ((hb.block w4.heap.size (by omega)).trans HA5.out); have s0 := (fun o => (nine_heap (kb_alloc (o' := o) HA6.out)).1); have s1 := (fun o => (nine_heap (kb_alloc (o' := o) HA6.out)).2.1); have s2 := (fun o => (nine_heap (kb_alloc (o' := o) HA6.out)).2.2.1); have s3 := (fun o => (nine_heap (kb_alloc (o' := o) HA6.out)).2.2.2.1); have s4 := (fun o => (nine_heap (kb_alloc (o' := o) HA6.out)).2.2.2.2.1); have s5 := (fun o => (nine_heap (kb_alloc (o' := o) HA6.out)).2.2.2.2.2.1); have s6 := (fun o => (nine_heap (kb_alloc (o' := o) HA6.out)).2.2.2.2.2.2.1); have s7 := (fun o => (nine_heap (kb_alloc (o' := o) HA6.out)).2.2.2.2.2.2.2.1); have s8 := (fun o => (nine_heap (kb_alloc (o' := o) HA6.out)).2.2.2.2.2.2.2.2); clear hf hb hst)
            | (go_at_call 18; (with_reducible refine (turned16 (n + 1) (form f false) _ (w6.alloc (.cells #[.int .i8 kb, .slice Ab nb cb, .string ⟨b2.toArray⟩, .string ⟨b3.toArray⟩, .string ⟨b4.toArray⟩, .slice Bb mb db, .string ⟨b6.toArray⟩, .string ⟨b7.toArray⟩, .bool xb] 26)) w4.heap.size ((HXa.out.wide (Nat.zero_le _) (Nat.le_refl _)).below (HB4_6.out.trans ((alloc1_below w6 _).mono (by omega)))) (by simp; omega)).mono ?_); rintro e w7 ⟨v7, rfl, hf, hb⟩; have hz7 : w6.heap.size + 1 ≤ w7.heap.size := (by have := hb.size; simpa using this); have hst := (alloc1_below w6 _).trans (hb.mono (by simp)); have HP7 := Lib.hid (HP6.out.later (hst.mono (by omega))); have HV7 := Lib.hid (HV6.out.below hst (by omega)); have HB4_7 := Lib.hid (HB4_6.out.trans (hst.mono (by omega))); have HB6_7 := Lib.hid hst; have HF7 := Lib.hid hf; have HA7 := Lib.hid ((hb.block w4.heap.size (by simp; omega)).trans (kb_alloc HA6.out)); have HBb7 := Lib.hid ((hb.block w6.heap.size (by simp)).trans (heap_alloc_new w6 _)); clear hf hb hst)
            | (go_at_call 10; (with_reducible refine (normal_p (n + 2) (notF (form f false)) _ w7 _ HF7.out (Nat.le_refl _) HV7.out (by omega)).mono ?_); rintro e w8 ⟨v8, rfl, hf, _, hb⟩; have hf := hf HMM.out; rw [HNF.out] at hf; obtain ⟨kc, Ac, nc, cc, c2, c3, c4, Bc, mc, dc, c6, c7, xc, rfl⟩ := (FAt.formF hf); rw [hcm]; have hz8 := hb.size; have hst := hb; have HP8 := Lib.hid (HP7.out.later (hst.mono (by omega))); have HV8 := Lib.hid (HV7.out.below hst (by omega)); have HB4_8 := Lib.hid (HB4_7.out.trans (hst.mono (by omega))); have HB6_8 := Lib.hid (HB6_7.out.trans (hst.mono (by omega))); have HXc := Lib.hid hf; have HA8 := Lib.hid ((hb.block w4.heap.size (by omega)).trans HA7.out); have HBb8 := Lib.hid ((hb.block w6.heap.size (by omega)).trans HBb7.out); have HQA := (fun o => (HP8.out.later ((alloc1_below w8 o).mono (by omega))).nine.1); have t0 := (fun o => (HQA o).1); have t1 := (fun o => (HQA o).2.1); have t2 := (fun o => (HQA o).2.2.1); have t3 := (fun o => (HQA o).2.2.2.1); have t4 := (fun o => (HQA o).2.2.2.2.1); have t5 := (fun o => (HQA o).2.2.2.2.2.1); have t6 := (fun o => (HQA o).2.2.2.2.2.2.1); have t7 := (fun o => (HQA o).2.2.2.2.2.2.2.1); have t8 := (fun o => (HQA o).2.2.2.2.2.2.2.2); clear HQA; clear hf hb hst)
            | (go_at_call 18; (with_reducible refine (turned16 n f _ (w8.alloc (.cells #[.int .i8 kc, .slice Ac nc cc, .string ⟨c2.toArray⟩, .string ⟨c3.toArray⟩, .string ⟨c4.toArray⟩, .slice Bc mc dc, .string ⟨c6.toArray⟩, .string ⟨c7.toArray⟩, .bool xc] 26)) W.heap.size (HF.out.below (HP8.out.below.trans ((alloc1_below w8 _).mono (by omega)))) (by simp; omega)).mono ?_); rintro e w9 ⟨v9, rfl, hf, hb⟩; have hz9 : w8.heap.size + 1 ≤ w9.heap.size := (by have := hb.size; simpa using this); have hst := (alloc1_below w8 _).trans (hb.mono (by simp)); have HP9 := Lib.hid (HP8.out.later (hst.mono (by omega))); have HV9 := Lib.hid (HV8.out.below hst (by omega)); have HB4_9 := Lib.hid (HB4_8.out.trans (hst.mono (by omega))); have HB6_9 := Lib.hid (HB6_8.out.trans (hst.mono (by omega))); have HB8_9 := Lib.hid hst; have HF9 := Lib.hid hf; have HA9 := Lib.hid ((hb.block w4.heap.size (by simp; omega)).trans (kb_alloc HA8.out)); have HBb9 := Lib.hid ((hb.block w6.heap.size (by simp; omega)).trans (kb_alloc HBb8.out)); have HC9 := Lib.hid ((hb.block w8.heap.size (by simp)).trans (heap_alloc_new w8 _)); clear hf hb hst)
            | (go_at_call 18; (with_reducible refine (turned16 (n + 1) (notF f) _ w9 _ HF9.out (Nat.le_refl _)).mono ?_); rintro e w10 ⟨v10, rfl, hf, hb⟩; have hz10 := hb.size; have hst := hb; have HP10 := Lib.hid (HP9.out.later (hst.mono (by omega))); have HV10 := Lib.hid (HV9.out.below hst (by omega)); have HB4_10 := Lib.hid (HB4_9.out.trans (hst.mono (by omega))); have HB6_10 := Lib.hid (HB6_9.out.trans (hst.mono (by omega))); have HB8_10 := Lib.hid (HB8_9.out.trans (hst.mono (by omega))); have HF10 := Lib.hid hf; have HA10 := Lib.hid ((hb.block w4.heap.size (by omega)).trans HA9.out); have HBb10 := Lib.hid ((hb.block w6.heap.size (by omega)).trans HBb9.out); have HC10 := Lib.hid ((hb.block w8.heap.size (by omega)).trans HC9.out); clear hf hb hst)
            | (go_at_call 10; (with_reducible refine (normal_p (n + 2) (notF (notF f)) _ w10 _ HF10.out (Nat.le_refl _) HV10.out (by omega)).mono ?_); rintro e w11 ⟨v11, rfl, hf, _, hb⟩; have hf := hf HMNN.out; rw [form_notnot] at hf; obtain ⟨kd, Ad, nd, cd, d2, d3, d4, Bd, md, dd, d6, d7, xd, rfl⟩ := (FAt.formF hf); rw [hc]; have hz11 := hb.size; have hst := hb; have HP11 := Lib.hid (HP10.out.later (hst.mono (by omega))); have HV11 := Lib.hid (HV10.out.below hst (by omega)); have HB4_11 := Lib.hid (HB4_10.out.trans (hst.mono (by omega))); have HB6_11 := Lib.hid (HB6_10.out.trans (hst.mono (by omega))); have HB8_11 := Lib.hid (HB8_10.out.trans (hst.mono (by omega))); have HXd := Lib.hid hf; have HA11 := Lib.hid ((hb.block w4.heap.size (by omega)).trans HA10.out); have HBb11 := Lib.hid ((hb.block w6.heap.size (by omega)).trans HBb10.out); have HC11 := Lib.hid ((hb.block w8.heap.size (by omega)).trans HC10.out); have b0 := (fun o => (nine_heap (kb_alloc (o' := o) HBb11.out)).1); have b1 := (fun o => (nine_heap (kb_alloc (o' := o) HBb11.out)).2.1); have b2 := (fun o => (nine_heap (kb_alloc (o' := o) HBb11.out)).2.2.1); have b3 := (fun o => (nine_heap (kb_alloc (o' := o) HBb11.out)).2.2.2.1); have b4 := (fun o => (nine_heap (kb_alloc (o' := o) HBb11.out)).2.2.2.2.1); have b5 := (fun o => (nine_heap (kb_alloc (o' := o) HBb11.out)).2.2.2.2.2.1); have b6 := (fun o => (nine_heap (kb_alloc (o' := o) HBb11.out)).2.2.2.2.2.2.1); have b7 := (fun o => (nine_heap (kb_alloc (o' := o) HBb11.out)).2.2.2.2.2.2.2.1); have b8 := (fun o => (nine_heap (kb_alloc (o' := o) HBb11.out)).2.2.2.2.2.2.2.2); have c0 := (fun o => (nine_heap (kb_alloc (o' := o) HC11.out)).1); have c1 := (fun o => (nine_heap (kb_alloc (o' := o) HC11.out)).2.1); have c2 := (fun o => (nine_heap (kb_alloc (o' := o) HC11.out)).2.2.1); have c3 := (fun o => (nine_heap (kb_alloc (o' := o) HC11.out)).2.2.2.1); have c4 := (fun o => (nine_heap (kb_alloc (o' := o) HC11.out)).2.2.2.2.1); have c5 := (fun o => (nine_heap (kb_alloc (o' := o) HC11.out)).2.2.2.2.2.1); have c6 := (fun o => (nine_heap (kb_alloc (o' := o) HC11.out)).2.2.2.2.2.2.1); have c7 := (fun o => (nine_heap (kb_alloc (o' := o) HC11.out)).2.2.2.2.2.2.2.1); have c8 := (fun o => (nine_heap (kb_alloc (o' := o) HC11.out)).2.2.2.2.2.2.2.2); clear hf hb hst)
            | (go_at_call 11; (with_reducible refine (same16 (n + 3) (form (notF f) false) _ _ (w11.alloc (.cells #[.int .i8 kd, .slice Ad nd cd, .string ⟨d2.toArray⟩, .string ⟨d3.toArray⟩, .string ⟨d4.toArray⟩, .slice Bd md dd, .string ⟨d6.toArray⟩, .string ⟨d7.toArray⟩, .bool xd] 26)) w6.heap.size w8.heap.size (((HXb.out.up (by omega)).wide (Nat.zero_le _) (Nat.le_refl _)).below (HB6_11.out.trans ((alloc1_below w11 _).mono (by omega)))) ((HXc.out.wide (Nat.zero_le _) (Nat.le_refl _)).below (HB8_11.out.trans ((alloc1_below w11 _).mono (by omega)))) (by simp; omega) (by simp; omega)).mono ?_); rintro e w12 ⟨rfl, hb⟩; have hz12 : w11.heap.size + 1 ≤ w12.heap.size := (by have := hb.size; simpa using this); have hst := (alloc1_below w11 _).trans (hb.mono (by simp)); have HP12 := Lib.hid (HP11.out.later (hst.mono (by omega))); have HV12 := Lib.hid (HV11.out.below hst (by omega)); have HB4_12 := Lib.hid (HB4_11.out.trans (hst.mono (by omega))); have HB11_12 := Lib.hid hst; have HA12 := Lib.hid ((hb.block w4.heap.size (by simp; omega)).trans (kb_alloc HA11.out)); have HD12 := Lib.hid ((hb.block w11.heap.size (by simp)).trans (heap_alloc_new w11 _)); obtain ⟨y0, y1, y2, y3, y4, y5, y6, y7, y8⟩ := nine_heap HA12.out; obtain ⟨z0, z1, z2, z3, z4, z5, z6, z7, z8⟩ := nine_heap HD12.out; clear hb hst)
            | (go_at_call 11; (with_reducible refine (same16 (n + 3) (form f false) _ _ w12 w4.heap.size w11.heap.size (((HXa.out.up (by omega)).wide (Nat.zero_le _) (Nat.le_refl _)).below HB4_12.out) ((HXd.out.wide (Nat.zero_le _) (Nat.le_refl _)).below HB11_12.out) (by omega) (by omega)).mono ?_); rintro e w13 ⟨rfl, hb⟩; have hz13 := hb.size; have hst := hb; have HP13 := Lib.hid (HP12.out.later (hst.mono (by omega))); have HV13 := Lib.hid (HV12.out.below hst (by omega)); clear hb hst)
            | (go_at_call 15; (with_reducible refine (HAL.out w13 HP13.out.below).mono ?_); rintro e w14 ⟨rfl, hb⟩; have HBE := Lib.hid (HP13.out.below.trans (hb.mono (by omega))); clear hb))
          go_ret
          exact ⟨rfl, HBE.out⟩
        · have hc0 : (check (notF (notF f))).1 ≠ 0 := fun h => hm (check_ok.1 h)
          generalize hcc : check (notF (notF f)) = cc at hc0
          obtain ⟨c, n', d'⟩ := cc
          have HCC := Lib.hid hcc
          have hc1 : ¬ c = 0 := hc0
          clear hm hc0 hcc
          go_wp2_with (first
            | (go_at_call 18; (with_reducible refine (turned16 n f _ wr _ HFR.out (Nat.le_refl _)).mono ?_); rintro e w1 ⟨v1, rfl, hf, hb⟩; have hz1 := hb.size; have hst := hb; have HP1 := Lib.hid (HP.out.later (hst.mono (by omega))); have HV1 := Lib.hid (HVR.out.below hst (by omega)); have HF1 := Lib.hid hf; clear hf hb hst)
            | (go_at_call 18; (with_reducible refine (turned16 (n + 1) (notF f) _ w1 _ HF1.out (Nat.le_refl _)).mono ?_); rintro e w2 ⟨v2, rfl, hf, hb⟩; have hz2 := hb.size; have hst := hb; have HP2 := Lib.hid (HP1.out.later (hst.mono (by omega))); have HV2 := Lib.hid (HV1.out.below hst (by omega)); have HF2 := Lib.hid hf; clear hf hb hst)
            | (go_at_call 17; (with_reducible refine (check_p false 0 _ (n + 2) (notF (notF f)) _ w2 HF2.out (Nat.le_refl _) HV2.out (by omega)).mono ?_); rintro e w3 ⟨rfl, hb⟩; rw [HCC.out]; have hz3 := hb.size; have hst := hb; have HP3 := Lib.hid (HP2.out.later (hst.mono (by omega))); have HV3 := Lib.hid (HV2.out.below hst (by omega)); obtain ⟨p0, p1, p2, p3, p4, p5, p6, p7, p8⟩ := HP3.out.nine.1; have HF3 := Lib.hid ((HF.out.below HP3.out.below).wide (Nat.le_refl 0) (show W.heap.size ≤ w3.heap.size by omega)); clear hb hst)
            | (go_at_call 15; (with_reducible refine (HAL.out w3 HP3.out.below).mono ?_); rintro e w4 ⟨rfl, hb⟩; have HBE := Lib.hid (HP3.out.below.trans (hb.mono (by omega))); clear hb))
          go_ret
          exact ⟨rfl, HBE.out⟩
end Go.Proofs.YtdkfmckbeagenaaGreatDoor
