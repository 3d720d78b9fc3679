/-
  rosterlaw16.ShapeNormal, walked.
  The run of function 15 in parts: it answers true.
 The closed call of layer 16 answers true wherever the variables hold what is laid.
 rosterlaw16.ShapeNormal answers true: its walk and its closed call.
-/
import Derived.Test.YtdkfmckbeagenaaGreatDoorQG6
import Derived.Test.YtdkfmckbeagenaaGreatDoorQE4
import Derived.Test.YtdkfmckbeagenaaGreatDoorWakesP5
set_option linter.unusedVariables false
set_option linter.unusedSimpArgs false
namespace Go.Proofs.YtdkfmckbeagenaaGreatDoor
open Go.RowKit Go.FltLaw Go.Lib Go.RankLaw

set_option maxHeartbeats 6400000 in
set_option maxRecDepth 100000 in
theorem shapeNormal_walked (W : World) (hal : Wakes16 W) (n : Nat) (f : Flt) (vf : Value) (hF : FAt false W 0 W.heap.size n f vf) (hv : MaxVar W) (hM : 1 < W.heap.size) :
  Calls Tryz.prog 3 #[vf] W fun e w' => e = .returned (.bool true) ∧ Below W.heap.size W w' := by
 have HAL := Lib.hid hal
 have HF := Lib.hid hF
 have HV := Lib.hid hv
 obtain ⟨c, hc⟩ : ∃ c, (check f).1 = c := ⟨_, rfl⟩
 have HC := Lib.hid hc
 obtain ⟨fk, fA, fn, fc, f2, f3, f4, fB, fm, fd, f6, f7, fx, rfl⟩ := (FAt.formF hF)
 have hb0 : ∀ o, Below W.heap.size W (W.alloc o) := fun o => (Below.refl _ _).alloc (Nat.le_refl _) o
 have HB0 := Lib.hid hb0
 have HA0 := Lib.hid (heap_alloc_new W (.cells #[.int .i8 fk, .slice fA fn fc, .string ⟨f2.toArray⟩, .string ⟨f3.toArray⟩, .string ⟨f4.toArray⟩, .slice fB fm fd, .string ⟨f6.toArray⟩, .string ⟨f7.toArray⟩, .bool fx] 26))
 clear hal hF hv hc hb0
 go_enter Tryz.func3, Tryz.ntmps3
 go_upto_region 3 with (go_at_call 6; ((with_reducible refine (heavy16 n f _ _ W.heap.size (HF.out.below (HB0.out _)) (by simp <;> omega)).mono ?_); rintro e w1 ⟨x, rfl, hb⟩; have HB1 := Lib.hid ((HB0.out _).trans (hb.mono (by simp))); have hz1 : W.heap.size + 1 ≤ w1.heap.size := (by have := hb.size; simpa using this); have HA1 := Lib.hid ((hb.block W.heap.size (by simp)).trans HA0.out); obtain ⟨i0, i1, i2, i3, i4, i5, i6, i7, i8⟩ := nine_heap HA1.out; clear hb))
 ·go_ret
  exact ⟨rfl, HB1.out⟩
 clear i0 i1 i2 i3 i4 i5 i6 i7 i8
 obtain ⟨i0, i1, i2, i3, i4, i5, i6, i7, i8⟩ := nine_heap HA1.out
 go_upto_region 4 with (go_at_call 7; ((with_reducible refine (rnormal_q n f _ w1 W.heap.size (HF.out.below HB1.out) (by omega) HC.out).mono ?_); rintro e w2 ⟨v2, rfl, hw, hb⟩; obtain ⟨zk, zA, zn, zc, z2, z3, z4, zB, zm, zd, z6, z7, zx, rfl⟩ := (FAt.formF hw); have HW2 := Lib.hid hw; have hz2 := hb.size; have HB2 := Lib.hid (HB1.out.trans (hb.mono (by omega))); have HA2 := Lib.hid ((hb.block W.heap.size (by omega)).trans HA1.out); clear i0 i1 i2 i3 i4 i5 i6 i7 i8; have i0 := (fun o => (nine_heap (kb_alloc (o' := o) HA2.out)).1); have i1 := (fun o => (nine_heap (kb_alloc (o' := o) HA2.out)).2.1); have i2 := (fun o => (nine_heap (kb_alloc (o' := o) HA2.out)).2.2.1); have i3 := (fun o => (nine_heap (kb_alloc (o' := o) HA2.out)).2.2.2.1); have i4 := (fun o => (nine_heap (kb_alloc (o' := o) HA2.out)).2.2.2.2.1); have i5 := (fun o => (nine_heap (kb_alloc (o' := o) HA2.out)).2.2.2.2.2.1); have i6 := (fun o => (nine_heap (kb_alloc (o' := o) HA2.out)).2.2.2.2.2.2.1); have i7 := (fun o => (nine_heap (kb_alloc (o' := o) HA2.out)).2.2.2.2.2.2.2.1); have i8 := (fun o => (nine_heap (kb_alloc (o' := o) HA2.out)).2.2.2.2.2.2.2.2); clear hw hb))
 go_upto_region 5 with (go_at_call 8; ((with_reducible refine (ris_p n f _ (w2.alloc (.cells #[.int .i8 zk, .slice zA zn zc, .string ⟨z2.toArray⟩, .string ⟨z3.toArray⟩, .string ⟨z4.toArray⟩, .slice zB zm zd, .string ⟨z6.toArray⟩, .string ⟨z7.toArray⟩, .bool zx] 26)) W.heap.size (HF.out.below (HB2.out.alloc (by omega) _)) (by simp <;> omega)).mono ?_); rintro e w3 ⟨rfl, hb⟩; have hz3 : w2.heap.size + 1 ≤ w3.heap.size := (by have := hb.size; simpa using this); have HB23 := Lib.hid (((Below.refl w2.heap.size w2).alloc (Nat.le_refl _) (.cells #[.int .i8 zk, .slice zA zn zc, .string ⟨z2.toArray⟩, .string ⟨z3.toArray⟩, .string ⟨z4.toArray⟩, .slice zB zm zd, .string ⟨z6.toArray⟩, .string ⟨z7.toArray⟩, .bool zx] 26)).trans (hb.mono (by simp))); have HB3 := Lib.hid (HB2.out.trans (HB23.out.mono (by omega))); have HA3 := Lib.hid ((HB23.out.block W.heap.size (by omega)).trans HA2.out); have HWB3 := Lib.hid ((hb.block w2.heap.size (by simp)).trans (heap_alloc_new w2 _)); clear i0 i1 i2 i3 i4 i5 i6 i7 i8; obtain ⟨i0, i1, i2, i3, i4, i5, i6, i7, i8⟩ := nine_heap HA3.out; clear hb))
 obtain ⟨isn, hisn⟩ : ∃ isn, isN f = isn := ⟨_, rfl⟩
 rw [hisn]
 have HIS := Lib.hid hisn
 clear hisn
 go_upto_region 6 with (go_at_call 9; ((with_reducible refine (mark_p n f _ w3 W.heap.size (HF.out.below HB3.out) (by omega)).mono ?_); rintro e w4 ⟨v4, rfl, hm, hb⟩; obtain ⟨mk, mA, mn, mc, m2, m3, m4, mB, mm, md, m6, m7, mx, rfl⟩ := (FAt.formF hm.at); have HM4 := Lib.hid hm; have hz4 := hb.size; have HB34 := Lib.hid hb; have HB4 := Lib.hid (HB3.out.trans (hb.mono (by omega))); have HA4 := Lib.hid ((hb.block W.heap.size (by omega)).trans HA3.out); have HWB4 := Lib.hid ((hb.block w2.heap.size (by omega)).trans HWB3.out); clear i0 i1 i2 i3 i4 i5 i6 i7 i8; clear hm hb))
 go_upto_region 7 with (go_at_call 10; ((with_reducible refine (normalO_q n f _ (w4.alloc (.cells #[.int .i8 mk, .slice mA mn mc, .string ⟨m2.toArray⟩, .string ⟨m3.toArray⟩, .string ⟨m4.toArray⟩, .slice mB mm md, .string ⟨m6.toArray⟩, .string ⟨m7.toArray⟩, .bool mx] 26)) w4.heap.size ((HM4.out.at.wide (Nat.zero_le _) (Nat.le_refl _)).below ((Below.refl _ _).alloc (Nat.le_refl _) _)) (by simp) (HV.out.below (HB4.out.alloc (by omega) _) hM) (by simp <;> omega) HC.out).mono ?_); rintro e w5 ⟨v5, rfl, ha, hb⟩; obtain ⟨ak, aA, an, ac, a2, a3, a4, aB, am, ad, a6, a7, ax, rfl⟩ := (FAt.formF ha.at); have hz5 : w4.heap.size + 1 ≤ w5.heap.size := (by have := hb.size; simpa using this); have HO5 := Lib.hid ha; have HB45 := Lib.hid (((Below.refl w4.heap.size w4).alloc (Nat.le_refl _) (.cells #[.int .i8 mk, .slice mA mn mc, .string ⟨m2.toArray⟩, .string ⟨m3.toArray⟩, .string ⟨m4.toArray⟩, .slice mB mm md, .string ⟨m6.toArray⟩, .string ⟨m7.toArray⟩, .bool mx] 26)).trans (hb.mono (by simp))); have HMB5 := Lib.hid ((hb.block w4.heap.size (by simp)).trans (heap_alloc_new w4 _)); have j0 := (fun o => (nine_heap (kb_alloc (o' := o) HMB5.out)).1); have j1 := (fun o => (nine_heap (kb_alloc (o' := o) HMB5.out)).2.1); have j2 := (fun o => (nine_heap (kb_alloc (o' := o) HMB5.out)).2.2.1); have j3 := (fun o => (nine_heap (kb_alloc (o' := o) HMB5.out)).2.2.2.1); have j4 := (fun o => (nine_heap (kb_alloc (o' := o) HMB5.out)).2.2.2.2.1); have j5 := (fun o => (nine_heap (kb_alloc (o' := o) HMB5.out)).2.2.2.2.2.1); have j6 := (fun o => (nine_heap (kb_alloc (o' := o) HMB5.out)).2.2.2.2.2.2.1); have j7 := (fun o => (nine_heap (kb_alloc (o' := o) HMB5.out)).2.2.2.2.2.2.2.1); have j8 := (fun o => (nine_heap (kb_alloc (o' := o) HMB5.out)).2.2.2.2.2.2.2.2); clear ha hb))
 have hb55 := (Below.refl w5.heap.size w5).alloc (Nat.le_refl _) (.cells #[.int .i8 ak, .slice aA an ac, .string ⟨a2.toArray⟩, .string ⟨a3.toArray⟩, .string ⟨a4.toArray⟩, .slice aB am ad, .string ⟨a6.toArray⟩, .string ⟨a7.toArray⟩, .bool ax] 26)
 have HB55 := Lib.hid hb55
 have HBW5 := Lib.hid ((HB4.out.trans (HB45.out.mono (by omega))).trans (hb55.mono (by omega)))
 have HMO5 := Lib.hid ((HM4.out.at.wide (Nat.zero_le _) (Nat.le_refl _)).below (HB45.out.trans (hb55.mono (by omega))))
 clear hb55
 go_upto_region 8 with (go_at_call 10; ((with_reducible refine (normalO_q n f _ (w5.alloc (.cells #[.int .i8 ak, .slice aA an ac, .string ⟨a2.toArray⟩, .string ⟨a3.toArray⟩, .string ⟨a4.toArray⟩, .slice aB am ad, .string ⟨a6.toArray⟩, .string ⟨a7.toArray⟩, .bool ax] 26)) w4.heap.size HMO5.out (by simp <;> omega) (HV.out.below HBW5.out hM) (by simp <;> omega) HC.out).mono ?_); rintro e w6 ⟨v6, rfl, hbb, hb⟩; obtain ⟨bk, bA, bn, bc, b2, b3, b4, bB, bm, bd, b6, b7, bx, rfl⟩ := (FAt.formF hbb.at); have hz6 : w5.heap.size + 1 ≤ w6.heap.size := (by have := hb.size; simpa using this); have HO6 := Lib.hid hbb; have HB56 := Lib.hid (HB55.out.trans (hb.mono (by simp))); have HAB6 := Lib.hid ((hb.block w5.heap.size (by simp)).trans (heap_alloc_new w5 _)); clear hbb hb))
 clear j0 j1 j2 j3 j4 j5 j6 j7 j8
 have hb66 := (Below.refl w6.heap.size w6).alloc (Nat.le_refl _) (.cells #[.int .i8 bk, .slice bA bn bc, .string ⟨b2.toArray⟩, .string ⟨b3.toArray⟩, .string ⟨b4.toArray⟩, .slice bB bm bd, .string ⟨b6.toArray⟩, .string ⟨b7.toArray⟩, .bool bx] 26)
 have hb5x := HB56.out.trans (hb66.mono (by omega))
 have hb4x := HB45.out.trans (hb5x.mono (by omega))
 have hb3x := HB34.out.trans (hb4x.mono (by omega))
 have hb2x := HB23.out.trans (hb3x.mono (by omega))
 have HN := Lib.hid (show Nor W (w6.alloc (.cells #[.int .i8 bk, .slice bA bn bc, .string ⟨b2.toArray⟩, .string ⟨b3.toArray⟩, .string ⟨b4.toArray⟩, .slice bB bm bd, .string ⟨b6.toArray⟩, .string ⟨b7.toArray⟩, .bool bx] 26)) n f (nf f) #[.int .i8 fk, .slice fA fn fc, .string ⟨f2.toArray⟩, .string ⟨f3.toArray⟩, .string ⟨f4.toArray⟩, .slice fB fm fd, .string ⟨f6.toArray⟩, .string ⟨f7.toArray⟩, .bool fx] #[.int .i8 zk, .slice zA zn zc, .string ⟨z2.toArray⟩, .string ⟨z3.toArray⟩, .string ⟨z4.toArray⟩, .slice zB zm zd, .string ⟨z6.toArray⟩, .string ⟨z7.toArray⟩, .bool zx] #[.int .i8 mk, .slice mA mn mc, .string ⟨m2.toArray⟩, .string ⟨m3.toArray⟩, .string ⟨m4.toArray⟩, .slice mB mm md, .string ⟨m6.toArray⟩, .string ⟨m7.toArray⟩, .bool mx] #[.int .i8 bk, .slice bA bn bc, .string ⟨b2.toArray⟩, .string ⟨b3.toArray⟩, .string ⟨b4.toArray⟩, .slice bB bm bd, .string ⟨b6.toArray⟩, .string ⟨b7.toArray⟩, .bool bx] w2.heap.size w4.heap.size w5.heap.size w6.heap.size from
  ⟨HB2.out.trans (hb2x.mono (by omega)), ⟨by omega, by omega, by omega, by omega, by simp⟩, (hb4x.block _ (by omega)).trans HA4.out, (hb4x.block _ (by omega)).trans HWB4.out, (hb5x.block _ (by omega)).trans HMB5.out, heap_alloc_new w6 _,
   HF.out.below (HB2.out.trans (hb2x.mono (by omega))), HW2.out.below hb2x, MAt.keep (fun b _ h2 => hb4x.block b (by omega)) (HM4.out.wide (by omega) (Nat.le_refl _)), (HO6.out.at.below hb66).wide (by simp) (Nat.le_refl _)⟩)
 have HFS := Lib.hid (show Fst (w6.alloc (.cells #[.int .i8 bk, .slice bA bn bc, .string ⟨b2.toArray⟩, .string ⟨b3.toArray⟩, .string ⟨b4.toArray⟩, .slice bB bm bd, .string ⟨b6.toArray⟩, .string ⟨b7.toArray⟩, .bool bx] 26)) n (nf f) #[.int .i8 ak, .slice aA an ac, .string ⟨a2.toArray⟩, .string ⟨a3.toArray⟩, .string ⟨a4.toArray⟩, .slice aB am ad, .string ⟨a6.toArray⟩, .string ⟨a7.toArray⟩, .bool ax] w4.heap.size w5.heap.size from
  ⟨(hb66.block _ (by omega)).trans HAB6.out, (HO5.out.wide (by simp) (Nat.le_refl _)).keep fun b _ h2 => hb5x.block b h2⟩)
 generalize w6.alloc (.cells #[.int .i8 bk, .slice bA bn bc, .string ⟨b2.toArray⟩, .string ⟨b3.toArray⟩, .string ⟨b4.toArray⟩, .slice bB bm bd, .string ⟨b6.toArray⟩, .string ⟨b7.toArray⟩, .bool bx] 26) = wq at HN HFS ⊢
 have hb3q : W.heap.size < w2.heap.size ∧ w2.heap.size < w4.heap.size ∧ w4.heap.size < w5.heap.size ∧ w5.heap.size < w6.heap.size := ⟨by omega, by omega, by omega, by omega⟩
 clear hb66 hb5x hb4x hb3x hb2x HB0 HA0 HB1 HA1 HB2 HA2 HW2 HB3 HA3 HB23 HWB3 HB4 HA4 HB34 HWB4 HM4 HO5 HB45 HMB5 HB55 HBW5 HMO5 HO6 HB56 HAB6 hz1 hz2 hz3 hz4 hz5 hz6 HC
 generalize w2.heap.size = d03 at HN hb3q ⊢
 generalize w4.heap.size = d06 at HN HFS hb3q ⊢
 generalize w5.heap.size = d07 at HN HFS hb3q ⊢
 generalize w6.heap.size = d09 at HN hb3q ⊢
 obtain ⟨o1, o2, o3, o4⟩ := hb3q
 have oq := HN.out.ord.2.2.2.2
 obtain ⟨p0, p1, p2, p3, p4, p5, p6, p7, p8⟩ := nine_heap HFS.out.a1
 obtain ⟨q0, q1, q2, q3, q4, q5, q6, q7, q8⟩ := nine_heap HN.out.w1
 go_upto_region 10 with (first
  | (go_at_call 11; (with_reducible refine (same16 (n + 1) (nf f) (.agg #[.int .i8 ak, .slice aA an ac, .string ⟨a2.toArray⟩, .string ⟨a3.toArray⟩, .string ⟨a4.toArray⟩, .slice aB am ad, .string ⟨a6.toArray⟩, .string ⟨a7.toArray⟩, .bool ax]) (.agg #[.int .i8 zk, .slice zA zn zc, .string ⟨z2.toArray⟩, .string ⟨z3.toArray⟩, .string ⟨z4.toArray⟩, .slice zB zm zd, .string ⟨z6.toArray⟩, .string ⟨z7.toArray⟩, .bool zx]) wq d07 d03 (HFS.out.af.at.wide (Nat.zero_le _) (Nat.le_refl _)) HN.out.wf (by omega) (by omega)).mono ?_); rintro e w7 ⟨rfl, hb⟩; have HN7 := Lib.hid (HN.out.on hb); have HFS7 := Lib.hid (HFS.out.on hb (by omega)); have o7 := HN7.out.ord.2.2.2.2; clear p0 p1 p2 p3 p4 p5 p6 p7 p8 q0 q1 q2 q3 q4 q5 q6 q7 q8; obtain ⟨q0, q1, q2, q3, q4, q5, q6, q7, q8⟩ := nine_heap HN7.out.w1; obtain ⟨r0, r1, r2, r3, r4, r5, r6, r7, r8⟩ := nine_heap HN7.out.b1; clear hb)
  | (go_at_call 11; (with_reducible refine (same16 (n + 1) (nf f) (.agg #[.int .i8 bk, .slice bA bn bc, .string ⟨b2.toArray⟩, .string ⟨b3.toArray⟩, .string ⟨b4.toArray⟩, .slice bB bm bd, .string ⟨b6.toArray⟩, .string ⟨b7.toArray⟩, .bool bx]) (.agg #[.int .i8 zk, .slice zA zn zc, .string ⟨z2.toArray⟩, .string ⟨z3.toArray⟩, .string ⟨z4.toArray⟩, .slice zB zm zd, .string ⟨z6.toArray⟩, .string ⟨z7.toArray⟩, .bool zx]) w7 d09 d03 (HN7.out.bf.wide (Nat.zero_le _) (Nat.le_refl _)) HN7.out.wf (by omega) (by omega)).mono ?_); rintro e w8 ⟨rfl, hb⟩; have HN8 := Lib.hid (HN7.out.on hb); have HFS8 := Lib.hid (HFS7.out.on hb (by omega)); have o8 := HN8.out.ord.2.2.2.2; clear q0 q1 q2 q3 q4 q5 q6 q7 q8 r0 r1 r2 r3 r4 r5 r6 r7 r8; obtain ⟨s0, s1, s2, s3, s4, s5, s6, s7, s8⟩ := nine_heap HN8.out.m1; clear hb)
  | (go_at_call 12; (with_reducible refine (sis_p n f _ w8 d06 (HN8.out.mf.at.wide (Nat.zero_le _) (Nat.le_refl _)) (by omega) (HV.out.below HN8.out.below hM) (by omega)).mono ?_); rintro e w9 ⟨rfl, hb⟩; rw [HIS.out]; have HN9 := Lib.hid (HN8.out.on hb); have HFS9 := Lib.hid (HFS8.out.on hb (by omega)); have o9 := HN9.out.ord.2.2.2.2; clear s0 s1 s2 s3 s4 s5 s6 s7 s8; obtain ⟨s0, s1, s2, s3, s4, s5, s6, s7, s8⟩ := nine_heap HN9.out.m1; obtain ⟨t0, t1, t2, t3, t4, t5, t6, t7, t8⟩ := nine_heap HN9.out.f1; clear hb)
  | (go_at_call 13; (with_reducible refine (kept_p n f _ _ w9 (d03 + 1) d06 W.heap.size HN9.out.mf HN9.out.ff (by omega) (by omega)).mono ?_); rintro e w10 ⟨rfl, hb⟩; have HN10 := Lib.hid (HN9.out.on hb); have HFS10 := Lib.hid (HFS9.out.on hb (by omega)); have o10 := HN10.out.ord.2.2.2.2; clear s0 s1 s2 s3 s4 s5 s6 s7 s8 t0 t1 t2 t3 t4 t5 t6 t7 t8; obtain ⟨p0, p1, p2, p3, p4, p5, p6, p7, p8⟩ := nine_heap HFS10.out.a1; clear hb))
 have HTT := Lib.hid (nf_tot HFS10.out.af)
 have h18 := tot_18 (nf f)
 obtain ⟨T, hT⟩ : ∃ T, tot (nf f) = T := ⟨_, rfl⟩
 rw [hT] at h18
 have HT := Lib.hid hT
 have h18' : (18 : Int) ≤ (T : Int) := by omega
 clear hT
 go_upto_region 11 with (go_at_call 14; (with_reducible refine (spoil_p (n + 1) (nf f) _ w10 (d06 + 1) d07 HFS10.out.af (by omega) HTT.out).mono ?_); rintro e w11 ⟨rfl, hs⟩; rw [HT.out]; have HN11 := Lib.hid (HN10.out.later hs); have o11 := HN11.out.ord.2.2.2.2; clear p0 p1 p2 p3 p4 p5 p6 p7 p8; obtain ⟨q0, q1, q2, q3, q4, q5, q6, q7, q8⟩ := nine_heap HN11.out.w1; obtain ⟨r0, r1, r2, r3, r4, r5, r6, r7, r8⟩ := nine_heap HN11.out.b1; clear hs)
 go_wp2_with (first
  | (go_at_call 11; (with_reducible refine (same16 (n + 1) (nf f) (.agg #[.int .i8 bk, .slice bA bn bc, .string ⟨b2.toArray⟩, .string ⟨b3.toArray⟩, .string ⟨b4.toArray⟩, .slice bB bm bd, .string ⟨b6.toArray⟩, .string ⟨b7.toArray⟩, .bool bx]) (.agg #[.int .i8 zk, .slice zA zn zc, .string ⟨z2.toArray⟩, .string ⟨z3.toArray⟩, .string ⟨z4.toArray⟩, .slice zB zm zd, .string ⟨z6.toArray⟩, .string ⟨z7.toArray⟩, .bool zx]) w11 d09 d03 (HN11.out.bf.wide (Nat.zero_le _) (Nat.le_refl _)) HN11.out.wf (by omega) (by omega)).mono ?_); rintro e w12 ⟨rfl, hb⟩; have HN12 := Lib.hid (HN11.out.on hb); have o12 := HN12.out.ord.2.2.2.2; clear q0 q1 q2 q3 q4 q5 q6 q7 q8 r0 r1 r2 r3 r4 r5 r6 r7 r8; obtain ⟨s0, s1, s2, s3, s4, s5, s6, s7, s8⟩ := nine_heap HN12.out.m1; obtain ⟨t0, t1, t2, t3, t4, t5, t6, t7, t8⟩ := nine_heap HN12.out.f1; clear hb)
  | (go_at_call 13; (with_reducible refine (kept_p n f _ _ w12 (d03 + 1) d06 W.heap.size HN12.out.mf HN12.out.ff (by omega) (by omega)).mono ?_); rintro e w13 ⟨rfl, hb⟩; have HN13 := Lib.hid (HN12.out.on hb); have o13 := HN13.out.ord.2.2.2.2; clear hb)
  | (go_at_call 15; (with_reducible refine (HAL.out w13 HN13.out.below).mono ?_); rintro e w14 ⟨rfl, hb⟩; have HN14 := Lib.hid (HN13.out.below.trans (hb.mono (by omega))); clear hb))
 go_ret
 exact ⟨rfl, HN14.out⟩
end Go.Proofs.YtdkfmckbeagenaaGreatDoor

namespace Go.Proofs.YtdkfmckbeagenaaGreatDoor
open Go.Ex
theorem wakes_end : (match run Tryz.prog 12 ext wakesJ 20000 wakesS5 with | some (.bool b, _) => b | _ => false) = true := by kernel_rfl
theorem wakes_lead : Leads Tryz.prog 12 wakesS0 wakesS5 := ((part_keeps noNum extOk mixed wakes_p1 rfl).trans ((part_keeps noNum extOk mixed wakes_p2 rfl).trans ((part_keeps noNum extOk mixed wakes_p3 rfl).trans ((part_keeps noNum extOk mixed wakes_p4 rfl).trans (part_keeps noNum extOk mixed wakes_p5 rfl)))))
theorem wakes_enter : ∃ fr, enterA Tryz.prog 15 [] = some fr ∧ wakesS0 = { fr, cs := [], hp := heapOf varsOf0, nx := 12, lb := 0, wl := [] } := by
 have h : (enterA Tryz.prog 15 []).isSome = true := by kernel_rfl
 unfold wakesS0
 cases hq : enterA Tryz.prog 15 [] with
 | none => rw [hq] at h; cases h
 | some fr => exact ⟨fr, rfl, rfl⟩
theorem wakes_true {σ : Sg} {w : World} (hL : ∀ p ∈ varsOf0, p.1 < 12) (hrel : Rel w.heap.size 12 σ (heapOf varsOf0) w) (hf : ∀ i, 12 ≤ i → σ i = none) :
  Calls Tryz.prog 15 #[] w fun e w' => e = .returned (.bool true) ∧ RowKit.Below w.heap.size w w' := by
 obtain ⟨fr, h1, h2⟩ := wakes_enter
 have hl := wakes_lead
 rw [h2] at hl
 refine true_parts (J := wakesJ) (n := 20000) (s1 := wakesS5) noNum extOk mixed h1 hL hl ?_ .nil hrel hf
 have he := wakes_end
 generalize run Tryz.prog 12 ext wakesJ 20000 wakesS5 = x at he ⊢
 exact he
end Go.Proofs.YtdkfmckbeagenaaGreatDoor

namespace Go.Proofs.YtdkfmckbeagenaaGreatDoor
open Go.Ex
theorem HeldAs.below {w w' : World} {B g : Nat} {l : List AV} (h : HeldAs w g l) (hb : RowKit.Below B w w') (hB : 12 ≤ B) : HeldAs w' g l := by
 have e : sg0 Tryz.prog w' 12 = sg0 Tryz.prog w 12 := by
  funext i
  unfold sg0
  by_cases hi : i < 12
  ·rw [if_pos hi, if_pos hi, hb.block i (by omega)]
  ·rw [if_neg hi, if_neg hi]
 obtain ⟨h1, c, tt, h2, h3, h4⟩ := h
 refine ⟨h1, c, tt, ?_, ?_, h4⟩
 ·rw [hb.block g (by omega)]; exact h2
 ·rw [e]; exact h3
theorem wakes16 {W : World} (hv : ∀ p ∈ varsOf0, HeldAs W p.1 p.2) (hG : 12 ≤ W.heap.size) : Wakes16 W := fun _ hb =>
 wakes_true (fun p hp => (hv p hp).1) (rel_vars fun p hp => (hv p hp).below hb hG) (fun i hi => by simp [sg0]; omega)
theorem size_of {W : World} (h : W.ShapedOpen Tryz.prog) : 12 ≤ W.heap.size := by
 obtain ⟨h1, _⟩ := h
 have hk : (((begin Tryz.prog (fun _ _ => 0) default).world.heap[11]?).bind Obj.row?).isSome = true := by kernel_rfl
 obtain ⟨⟨zero, t⟩, hz⟩ := Option.isSome_iff_exists.1 hk
 obtain ⟨cs, hcs, _⟩ := h1 11 zero t (by decide) hz
 exact (Array.getElem?_eq_some_iff.1 hcs).1
end Go.Proofs.YtdkfmckbeagenaaGreatDoor

namespace Go.Proofs.YtdkfmckbeagenaaGreatDoor
open Go.RowKit Go.FltLaw
theorem shapeNormal_walk (W : World) (n1 : Nat) (f1 : Flt) (v1 : Value) (h1 : FAt false W 0 W.heap.size n1 f1 v1) (hsh : W.ShapedOpen Tryz.prog) (hG : 12 ≤ W.heap.size) (hv : ∀ p ∈ varsOf0, HeldAs W p.1 p.2) :
  Calls Tryz.prog 3 #[v1] W fun e w' => e = .returned (.bool true) ∧ Below W.heap.size W w' :=
 shapeNormal_walked W (wakes16 hv hG) n1 f1 v1 h1 (maxVar_of hsh) (Nat.lt_of_lt_of_le (by decide) hG)
end Go.Proofs.YtdkfmckbeagenaaGreatDoor
