/-
  shape.Normal; rosterlaw16.turned; filters built of filters.
  rosterlaw16.ShapeOrder, walked.
-/
import Derived.Test.YtdkfmckbeagenaaGreatDoorQE3
import Derived.Test.YtdkfmckbeagenaaGreatDoorQD2
import Derived.Test.YtdkfmckbeagenaaGreatDoorQA2
import Derived.Test.YtdkfmckbeagenaaGreatDoorQE4
namespace Go.Proofs.YtdkfmckbeagenaaGreatDoor
open Go.RowKit Go.FltLaw Go.Lib Go.RankLaw

theorem results_ct16 {P : Program} {fn : Func} {p u : Tmp} {ty : TypeId} (h : fn.results = #[.cell p ty, .tmp u]) (tmps : Array Value) (w : World) (g : Nat) (t : TypeId) (cs : Array Value) (fr : Nat × Nat) (d : TypeDesc)
    (hp : tmps.getD p undef = .pointer (some ⟨g, 0, none⟩)) (hg : w.heap[g]? = some (.cells cs t fr)) (hu : P.underlying ty = some d) (hd : (match d with | .struct _ | .array _ _ => true | _ => false) = true) (hi : (P.info? ty).map (·.size) = some cs.size) :
    (results fn tmps).run P w = .ok (.tuple #[.agg cs, tmps.getD u undef]) w := by
  have h1 := run_loadVar_row (P := P) w g t ty cs fr d hg hu hd hi
  have hp' : tmps[p]?.getD undef = .pointer (some ⟨g, 0, none⟩) := by simpa using hp
  simp only [results, h]
  simp [Result.andThen, asAddr, hp', h1]
theorem nine_heap {w : World} {b : Nat} {a0 a1 a2 a3 a4 a5 a6 a7 a8 : Value} {t : TypeId} {fr : Nat × Nat} (h : w.heap[b]? = some (.cells #[a0, a1, a2, a3, a4, a5, a6, a7, a8] t fr)) :
    w.cell? ⟨b, 0, none⟩ = some a0 ∧ w.cell? ⟨b, 1, none⟩ = some a1 ∧ w.cell? ⟨b, 2, none⟩ = some a2 ∧ w.cell? ⟨b, 3, none⟩ = some a3 ∧ w.cell? ⟨b, 4, none⟩ = some a4 ∧ w.cell? ⟨b, 5, none⟩ = some a5 ∧ w.cell? ⟨b, 6, none⟩ = some a6 ∧ w.cell? ⟨b, 7, none⟩ = some a7 ∧ w.cell? ⟨b, 8, none⟩ = some a8 := by
  simp [World.cell?, h]
theorem itv_lt {lo hi b : Nat} (h : Itv lo hi b) : b < hi := h.2
/-- What Normal answers. -/
def Normal1 (n : Nat) (f : Flt) (w : World) (e : Ending) (w' : World) : Prop :=
  ∃ v', e = .returned (.tuple #[v', .int .i64 (check f).1]) ∧ (FltLaw.may f → FAt false w' w.heap.size w'.heap.size (n + 1) (form f false) v') ∧ (¬ FltLaw.may f → v' = .agg zeroF9) ∧ Below w.heap.size w w'
theorem may_check0 {f : Flt} (h : FltLaw.may f) : (check f).1 = 0 := check_ok.2 h
set_option maxHeartbeats 1600000 in
set_option maxRecDepth 100000 in
theorem normal_p (fuel : Nat) (f : Flt) (v : Value) (w : World) (B : Nat) (hF : FAt false w 0 B fuel f v) (hB : B ≤ w.heap.size) (hv : MaxVar w) (hM : 1 < w.heap.size) :
    Calls Tryz.prog 10 #[v] w (Normal1 fuel f w) := by
  have HF := Lib.hid hF
  have hb0 : ∀ o o', Below w.heap.size w ((w.alloc o).alloc o') := fun o o' => ((Below.refl _ w).alloc (Nat.le_refl _) o).alloc (by simp) o'
  have HB0 := Lib.hid hb0
  have HV := Lib.hid hv
  obtain ⟨k2, A2, m2, c2', s2, s3, s4, A5, m5, q5, s6, s7, x8, rfl⟩ := (FAt.formF hF)
  have hfb := fun o' => heap_alloc2_old w (.cells #[.int .i8 k2, .slice A2 m2 c2', .string ⟨s2.toArray⟩, .string ⟨s3.toArray⟩, .string ⟨s4.toArray⟩, .slice A5 m5 q5, .string ⟨s6.toArray⟩, .string ⟨s7.toArray⟩, .bool x8] 26) o'
  have hrb := fun o => heap_alloc2_new w o (.cells zeroF9 26)
  have HFB := Lib.hid hfb
  have HRB := Lib.hid hrb
  clear hF hb0 hv hfb hrb
  by_cases hm : FltLaw.may f
  · have hc0 := may_check0 hm
    have HMY := Lib.hid hm
    obtain ⟨hfine, hdp, hsz⟩ := may_iff.1 hm
    have HFI := Lib.hid hfine
    obtain ⟨g1, g2, g3⟩ := grown_char hfine
    have HG1 := Lib.hid g1
    clear hm hfine g1
    go_enter Tryz.func10, Tryz.ntmps10
    go_wp2_with (first
      | (go_at_call 17; (with_reducible refine (check_p false 0 B fuel f _ _ (HF.out.below ((HB0.out _ _).mono hB)) (by simp <;> omega) (HV.out.below (HB0.out _ _) hM) (by simp <;> omega)).mono ?_); rintro e w3 ⟨rfl, hb3⟩; rw [hc0]; have h1 := (hb3.block w.heap.size (by simp <;> omega)).trans (HFB.out _); have HR3 := Lib.hid ((hb3.block (w.heap.size + 1) (by simp <;> omega)).trans (HRB.out _)); obtain ⟨c0, c1, c2, c3, c4, c5, c6, c7, c8⟩ := nine_heap h1; have hb3' := (HB0.out _ _).trans (hb3.mono (by simp <;> omega)); have HB3 := Lib.hid hb3'; have hz3 : w.heap.size + 2 ≤ w3.heap.size := (by have := hb3.size; simp at this; omega); clear hb3 hb3' h1)
      | (go_at_call 26; (with_reducible refine (grown_p fuel f _ w3 (Itv 0 B) (FAtS.of (HF.out.below (HB3.out.mono hB))) (fun b hb => by have := itv_lt hb; omega) HFI.out).mono ?_); rintro e w4 ⟨v4, rfl, hn4, hb4⟩; have HN4 := Lib.hid hn4; have HB4 := Lib.hid hb4; have hz4 := hb4.size; clear hn4 hb4)
      | (go_at_call 25; (with_reducible refine (laid_p (fuel + 1) (FltLaw.grown f) _ w4 _ HN4.out (fun b hb => by rcases hb with hb | hb; have := itv_lt hb; omega; exact hb.2) HG1.out (by omega) (by omega) ((HV.out.below HB3.out hM).below HB4.out (by omega)) (by omega)).mono ?_); rintro e w5 ⟨v5, rfl, hf5, hb5⟩; rw [normal_same HMY.out] at hf5; have hz5 := hb5.size; have HF5 := Lib.hid (FAtS.to (lo := 0) (hi := w5.heap.size) (fun b hb => ⟨Nat.zero_le _, by rcases hb with (hb | hb) | hb; have := itv_lt hb; omega; have := itv_lt hb; omega; exact hb.2⟩) hf5); have HB5 := Lib.hid hb5; clear hf5 hb5)
      | (go_at_call 24; (with_reducible refine (twin_may (fuel + 1) (form f false) _ w5 w5.heap.size HF5.out (Nat.le_refl _) (((HV.out.below HB3.out hM).below HB4.out (by omega)).below HB5.out (by omega)) (by omega) (may_form HMY.out).1).mono ?_); rintro e w6 ⟨v6, rfl, hf6, hb6⟩; have hz6 := hb6.size; obtain ⟨k4, A4, n4, d4, r2, r3, r4, A6, n6, d6, r6, r7, x4, rfl⟩ := (FAt.formF hf6); have HF6 := Lib.hid hf6; have HB6 := Lib.hid hb6; have HR6 := Lib.hid ((hb6.block (w.heap.size + 1) (by omega)).trans ((HB5.out.block (w.heap.size + 1) (by omega)).trans ((HB4.out.block (w.heap.size + 1) (by omega)).trans HR3.out))); clear hf6 hb6)
      | (refine wpList_store_row rfl 26 (.tmp 2) (.tmp 20) rfl (w.heap.size + 1) #[.int .i8 k4, .slice A4 n4 d4, .string ⟨r2.toArray⟩, .string ⟨r3.toArray⟩, .string ⟨r4.toArray⟩, .slice A6 n6 d6, .string ⟨r6.toArray⟩, .string ⟨r7.toArray⟩, .bool x4] rfl rfl 26 zeroF9 HR6.out (by kernel_rfl) rfl (by simp [Value.oneCell']) ?_))
    (try simp only [Exit.inBlock, Exit.then])
    refine bodyPost_ret (results_ct16 rfl _ _ (w.heap.size + 1) 26 _ (0, 0) _ rfl (setRow_heap _ _ _ _ _ _ HR6.out) Tryz.underlying26 rfl (by kernel_rfl)) rfl ?_
    refine ⟨_, by rw [hc0]; rfl, fun _ => ?_, fun h => absurd HMY.out h, (((HB3.out.trans (HB4.out.mono (by omega))).trans (HB5.out.mono (by omega))).trans (HB6.out.mono (by omega))).trans ⟨rfl, rfl, rfl, by simp, fun b hb => setRow_other _ _ _ _ (by omega)⟩⟩
    refine (FAt.keep (fun p hp _ => World.cell?_of_block (setRow_other _ _ _ _ (by omega))) HF6.out).wide (by omega) (by simp)
  · have hc0 : (check f).1 ≠ 0 := fun h => hm (check_ok.1 h)
    have HMY := Lib.hid hm
    generalize hcc : check f = cc at hc0
    obtain ⟨c, n, d⟩ := cc
    have HCC := Lib.hid hcc
    have hc1 : ¬ c = 0 := hc0
    clear hm hc0 hcc
    go_enter Tryz.func10, Tryz.ntmps10
    go_wp2_with (first
      | (go_at_call 17; (with_reducible refine (check_p false 0 B fuel f _ _ (HF.out.below ((HB0.out _ _).mono hB)) (by simp <;> omega) (HV.out.below (HB0.out _ _) hM) (by simp <;> omega)).mono ?_); rintro e w3 ⟨rfl, hb3⟩; rw [HCC.out]; have HR3 := Lib.hid ((hb3.block (w.heap.size + 1) (by simp <;> omega)).trans (HRB.out _)); have hb3' := (HB0.out _ _).trans (hb3.mono (by simp <;> omega)); have HB3 := Lib.hid hb3'; clear hb3 hb3')
      | (refine wpList_store_row rfl 26 (.tmp 2) (.tmp 15) rfl (w.heap.size + 1) zeroF9 rfl rfl 26 zeroF9 HR3.out (by kernel_rfl) rfl (by simp [Value.oneCell']) ?_))
    (try simp only [Exit.inBlock, Exit.then])
    refine bodyPost_ret (results_ct16 rfl _ _ (w.heap.size + 1) 26 _ (0, 0) _ rfl (setRow_heap _ _ _ _ _ _ HR3.out) Tryz.underlying26 rfl (by kernel_rfl)) rfl ?_
    exact ⟨_, by rw [HCC.out]; rfl, fun h => absurd h HMY.out, fun _ => rfl, HB3.out.trans ⟨rfl, rfl, rfl, by simp, fun b hb => setRow_other _ _ _ _ (by omega)⟩⟩
end Go.Proofs.YtdkfmckbeagenaaGreatDoor

namespace Go.Proofs.YtdkfmckbeagenaaGreatDoor
open Go.RowKit Go.FltLaw Go.Lib Go.RankLaw

/-- Not of a filter, its list in the third of three new blocks. -/
theorem not_at3 {S : Nat → Prop} {w : World} {n r : Nat} {f : Flt} {cs c3 : Array Value} {o1 o2 : Obj} {t : TypeId} (hF : FAtS S w n f (.agg c3)) (hS : ∀ b, S b → b < w.heap.size) (hr : w.heap.size ≤ r ∧ r ≤ w.heap.size + 1) (h2 : (((w.alloc o1).alloc o2).alloc (.cells c3 t)).heap[w.heap.size + 2]? = some (.cells c3 t (0, 0))) :
    FAtS (fun b => b < ((((w.alloc o1).alloc o2).alloc (.cells c3 t)).setRow r cs).heap.size) ((((w.alloc o1).alloc o2).alloc (.cells c3 t)).setRow r cs) (n + 1) (notF f)
      (.agg #[.int .i8 2, .slice (some ⟨w.heap.size + 1 + 1, 0, none⟩) 1 1, .string ⟨#[]⟩, .string ⟨#[]⟩, .string ⟨#[]⟩, .slice none 0 0, .string ⟨#[]⟩, .string ⟨#[]⟩, .bool false]) := by
  have hb : Below w.heap.size w ((((w.alloc o1).alloc o2).alloc (.cells c3 t)).setRow r cs) := ((((Below.refl _ _).alloc (Nat.le_refl _) _).alloc (by simp) _).alloc (by simp; omega) _).trans ⟨rfl, rfl, rfl, by simp, fun b hb => setRow_other _ _ _ _ (by omega)⟩
  refine ⟨some ⟨w.heap.size + 1 + 1, 0, none⟩, 1, none, 0, rfl, ⟨by omega, by omega, by simp, by unfold maxLen; omega, by simp, by simp, by simp, by simp, by simp, by unfold maxLen; omega, by simp, by simp, by simp, by simp⟩, fun h => by simp at h, fun _ => ⟨_, rfl, by simp, fun i g hi => ?_⟩⟩
  have hi0 : i = 0 := by have := (List.getElem?_eq_some_iff.1 hi).1; simp at this; omega
  subst hi0
  simp at hi
  subst hi
  refine ⟨.agg c3, (hF.keep fun p hp => hb.cell (hS _ hp)).mono fun b hb => by have := hS b hb; simp; omega, fun j u hu => ?_⟩
  have e : (⟨w.heap.size + 1 + 1, 0, none⟩ : Addr).add (0 * 9 + j) = ⟨w.heap.size + 2, j, none⟩ := by unfold Addr.add; split <;> simp_all
  rw [e]
  have h3 : ((((w.alloc o1).alloc o2).alloc (.cells c3 t)).setRow r cs).heap[w.heap.size + 2]? = some (.cells c3 t (0, 0)) := by rw [setRow_other _ _ _ _ (by omega)]; exact h2
  have hu' : c3[j]? = some u := hu
  unfold World.cell?
  simp only [h3]
  exact hu'
def Turned16 (n : Nat) (f : Flt) (w : World) (e : Ending) (w' : World) : Prop := ∃ v, e = .returned v ∧ FAt false w' 0 w'.heap.size (n + 1) (notF f) v ∧ Below w.heap.size w w'
set_option maxHeartbeats 800000 in
set_option maxRecDepth 100000 in
theorem turned16 (n : Nat) (f : Flt) (v : Value) (w : World) (B : Nat) (hF : FAt false w 0 B n f v) (hB : B ≤ w.heap.size) : Calls Tryz.prog 18 #[v] w (Turned16 n f w) := by
  have hS := FAtS.of hF
  obtain ⟨kf, Af, nf, cf, f2, f3, f4, Bf, mf, df, f6, f7, xf, rfl⟩ := (FAt.formF hF)
  have HFS := Lib.hid hS
  have HR := fun o o' => Lib.hid (show (((w.alloc o).alloc (.cells zeroF9 26)).alloc o').heap[w.heap.size + 1]? = some (.cells zeroF9 26 (0, 0)) from kb_alloc (heap_alloc2_new w o _))
  have H2 := fun o o' => Lib.hid (alloc3_new w o o' (.cells #[.int .i8 kf, .slice Af nf cf, .string ⟨f2.toArray⟩, .string ⟨f3.toArray⟩, .string ⟨f4.toArray⟩, .slice Bf mf df, .string ⟨f6.toArray⟩, .string ⟨f7.toArray⟩, .bool xf] 26))
  clear hF hS
  go_enter Tryz.func18, Tryz.ntmps18
  go_wp2_with (refine wpList_store_row rfl 26 (.tmp 2) (.tmp 5) rfl (w.heap.size + 1) #[.int .i8 2, .slice (some ⟨w.heap.size + 1 + 1, 0, none⟩) 1 1, .string ⟨#[]⟩, .string ⟨#[]⟩, .string ⟨#[]⟩, .slice none 0 0, .string ⟨#[]⟩, .string ⟨#[]⟩, .bool false] rfl rfl 26 zeroF9 (HR _ _).out (by kernel_rfl) rfl (by simp [Value.oneCell']) ?_)
  (try simp only [Exit.inBlock, Exit.then])
  refine bodyPost_ret (results_cell_row rfl _ _ (w.heap.size + 1) 26 _ (0, 0) _ rfl (setRow_heap _ _ _ _ _ _ (HR _ _).out) Tryz.underlying26 rfl (by kernel_rfl)) rfl ?_
  refine ⟨_, rfl, FAtS.to (fun b hb => ⟨Nat.zero_le _, hb⟩) (not_at3 HFS.out (fun b hb => by have := itv_lt hb; omega) ⟨by omega, by omega⟩ (H2 _ _).out), ?_⟩
  exact ((((Below.refl _ _).alloc (Nat.le_refl _) _).alloc (by simp) _).alloc (by simp; omega) _).trans ⟨rfl, rfl, rfl, by simp, fun b hb => setRow_other _ _ _ _ (by omega)⟩

/-- An And or Or of kids that lie in a block. -/
theorem junc_at {S : Nat → Prop} {w : World} {n b : Nat} {k : Int} {ks : List Flt} {cs : Array Value} {t : TypeId} {fr : Nat × Nat} (hk : k = 0 ∨ k = 1) (hb : S b) (hl : ks.length ≤ 3) (h : w.heap[b]? = some (.cells cs t fr)) (hks : KidsS S w n ks cs.toList) :
    FAtS S w (n + 1) (juncF k ks) (.agg #[.int .i8 k, .slice (some ⟨b, 0, none⟩) ks.length ks.length, .string ⟨#[]⟩, .string ⟨#[]⟩, .string ⟨#[]⟩, .slice none 0 0, .string ⟨#[]⟩, .string ⟨#[]⟩, .bool false]) := by
  refine ⟨some ⟨b, 0, none⟩, ks.length, none, 0, rfl, ⟨by omega, by omega, Nat.le_refl _, by unfold maxLen; omega, by omega, by simp, by simp, by simp, by simp, by unfold maxLen; omega, by simp, by simp, by simp, by simp⟩, fun h => by simp at h, fun _ => ⟨_, rfl, hb, fun i f hi => ?_⟩⟩
  obtain ⟨v, h1, h2⟩ := hks i f hi
  refine ⟨v, h1, fun j u hu => ?_⟩
  have e : (⟨b, 0, none⟩ : Addr).add (i * 9 + j) = ⟨b, i * 9 + j, none⟩ := by unfold Addr.add; split <;> simp_all
  have hu' : cs[i * 9 + j]? = some u := by have := h2 j u hu; simpa using this
  rw [e]
  unfold World.cell?
  simp only [h]
  exact hu'

/-- What lies behind the two filters of a round: their And or Or, and the greater one. -/
theorem built {w : World} {n : Nat} {f g : Flt} {vf vg : Value} {k : Int} {cs2 cs3 cs4 : Array Value} {o1 o4 : Obj} {t t3 t4 : TypeId} (hk : k = 0 ∨ k = 1) (hF : FAt false w 0 w.heap.size n f vf) (hG : FAt false w 0 w.heap.size n g vg)
    (h2 : cs2.toList = vf.cells.toList ++ vg.cells.toList) (h3 : cs3.toList = vf.cells.toList ++ vg.cells.toList ++ vf.cells.toList)
    (h4 : cs4.toList = vg.cells.toList ++ [.int .i8 k, .slice (some ⟨w.heap.size + 1 + 1, 0, none⟩) 3 3, .string ⟨#[]⟩, .string ⟨#[]⟩, .string ⟨#[]⟩, .slice none 0 0, .string ⟨#[]⟩, .string ⟨#[]⟩, .bool false]) :
    FAt false (((((w.alloc (.cells cs2 t)).alloc o1).alloc (.cells cs3 t3)).alloc (.cells cs4 t4)).alloc o4) 0 (((((w.alloc (.cells cs2 t)).alloc o1).alloc (.cells cs3 t3)).alloc (.cells cs4 t4)).alloc o4).heap.size (n + 2) (juncF k [f, g]) (.agg #[.int .i8 k, .slice (some ⟨w.heap.size, 0, none⟩) 2 2, .string ⟨#[]⟩, .string ⟨#[]⟩, .string ⟨#[]⟩, .slice none 0 0, .string ⟨#[]⟩, .string ⟨#[]⟩, .bool false]) ∧
    FAt false (((((w.alloc (.cells cs2 t)).alloc o1).alloc (.cells cs3 t3)).alloc (.cells cs4 t4)).alloc o4) 0 (((((w.alloc (.cells cs2 t)).alloc o1).alloc (.cells cs3 t3)).alloc (.cells cs4 t4)).alloc o4).heap.size (n + 2) (juncF k [g, juncF k [f, g, f]]) (.agg #[.int .i8 k, .slice (some ⟨w.heap.size + 1 + 1 + 1, 0, none⟩) 2 2, .string ⟨#[]⟩, .string ⟨#[]⟩, .string ⟨#[]⟩, .slice none 0 0, .string ⟨#[]⟩, .string ⟨#[]⟩, .bool false]) := by
  generalize hW : ((((w.alloc (.cells cs2 t)).alloc o1).alloc (.cells cs3 t3)).alloc (.cells cs4 t4)).alloc o4 = W
  have b1 : W.heap[w.heap.size]? = some (.cells cs2 t (0, 0)) := by
    rw [← hW]; exact kb_alloc (kb_alloc (kb_alloc (heap_alloc2_old _ _ _)))
  have b2 : W.heap[w.heap.size + 1 + 1]? = some (.cells cs3 t3 (0, 0)) := by
    rw [← hW]
    have := heap_alloc_new ((w.alloc (.cells cs2 t)).alloc o1) (.cells cs3 t3)
    exact kb_alloc (kb_alloc (by simpa using this))
  have b3 : W.heap[w.heap.size + 1 + 1 + 1]? = some (.cells cs4 t4 (0, 0)) := by
    rw [← hW]
    have := heap_alloc_new (((w.alloc (.cells cs2 t)).alloc o1).alloc (.cells cs3 t3)) (.cells cs4 t4)
    exact kb_alloc (by simpa using this)
  have hsz : W.heap.size = w.heap.size + 5 := by rw [← hW]; simp
  have hb : Below w.heap.size w W := by
    rw [← hW]
    exact (((((Below.refl _ w).alloc (Nat.le_refl _) _).alloc (by simp) _).alloc (by simp; omega) _).alloc (by simp; omega) _).alloc (by simp; omega) _
  have hf : FAtS (fun b => b < W.heap.size) W n f vf := (FAtS.of (hF.below hb)).mono fun b hb => by have := itv_lt hb; omega
  have hg : FAtS (fun b => b < W.heap.size) W n g vg := (FAtS.of (hG.below hb)).mono fun b hb => by have := itv_lt hb; omega
  have lf : vf.cells.toList.length = [f].length * 9 := by
    obtain ⟨c, rfl, h, _⟩ := FAtS.cells9 hf
    simpa [Value.cells] using h
  have lg : vg.cells.toList.length = [g].length * 9 := by
    obtain ⟨c, rfl, h, _⟩ := FAtS.cells9 hg
    simpa [Value.cells] using h
  have lfg : (vf.cells.toList ++ vg.cells.toList).length = ([f] ++ [g]).length * 9 := by rw [List.length_append, lf, lg]; rfl
  have kfg := KidsS.app lf (KidsS.one hf) (KidsS.one hg)
  have k3 := KidsS.app lfg kfg (KidsS.one hf)
  have hj := junc_at (S := fun b => b < W.heap.size) hk (by show w.heap.size + 1 + 1 < W.heap.size; omega) (by simp) b2 (ks := [f] ++ [g] ++ [f]) (by rw [h3]; exact k3)
  have kgj := KidsS.app lg (KidsS.one (hg.up (Nat.le_succ n))) (KidsS.one hj)
  have e : (Value.agg #[.int .i8 k, .slice (some ⟨w.heap.size + 1 + 1, 0, none⟩) ([f] ++ [g] ++ [f]).length ([f] ++ [g] ++ [f]).length, .string ⟨#[]⟩, .string ⟨#[]⟩, .string ⟨#[]⟩, .slice none 0 0, .string ⟨#[]⟩, .string ⟨#[]⟩, .bool false]).cells.toList = [.int .i8 k, .slice (some ⟨w.heap.size + 1 + 1, 0, none⟩) 3 3, .string ⟨#[]⟩, .string ⟨#[]⟩, .string ⟨#[]⟩, .slice none 0 0, .string ⟨#[]⟩, .string ⟨#[]⟩, .bool false] := rfl
  rw [e] at kgj
  refine ⟨FAtS.to (fun b hb => ⟨Nat.zero_le _, hb⟩) (FAtS.up (Nat.le_succ _) (junc_at (S := fun b => b < W.heap.size) hk (by show w.heap.size < W.heap.size; omega) (by simp) b1 (ks := [f] ++ [g]) (by rw [h2]; exact kfg))), FAtS.to (fun b hb => ⟨Nat.zero_le _, hb⟩) ?_⟩
  exact junc_at (S := fun b => b < W.heap.size) hk (by show w.heap.size + 1 + 1 + 1 < W.heap.size; omega) (by simp) b3 (ks := [g] ++ [juncF k ([f] ++ [g] ++ [f])]) (by rw [h4]; exact kgj)
theorem alloc5_at (w : World) (o0 o1 o2 o3 o4 : Obj) : (((((w.alloc o0).alloc o1).alloc o2).alloc o3).alloc o4).heap[w.heap.size + 1]? = some o1 ∧ (((((w.alloc o0).alloc o1).alloc o2).alloc o3).alloc o4).heap[w.heap.size + 4]? = some o4 := by
  constructor
  · exact kb_alloc (kb_alloc (kb_alloc (heap_alloc2_new w o0 o1)))
  · have := heap_alloc_new ((((w.alloc o0).alloc o1).alloc o2).alloc o3) o4
    simpa using this
theorem alloc5_below (w : World) (o0 o1 o2 o3 o4 : Obj) : Below w.heap.size w (((((w.alloc o0).alloc o1).alloc o2).alloc o3).alloc o4) :=
  (((((Below.refl _ w).alloc (Nat.le_refl _) _).alloc (by simp) _).alloc (by simp; omega) _).alloc (by simp; omega) _).alloc (by simp; omega) _
theorem alloc1_below (w : World) (o : Obj) : Below w.heap.size w (w.alloc o) := (Below.refl _ w).alloc (Nat.le_refl _) o
end Go.Proofs.YtdkfmckbeagenaaGreatDoor
