/-
  rosterref09.cmp: what it computes.
-/
import Derived.Test.YtdkfmckbeagenaaGreatDoorQG1
import Derived.StillTailTactics
import Derived.Deep.RegionHeld3
import Derived.Deep.AppendLies
import Derived.Laws.OwnMore
set_option linter.unusedVariables false
set_option linter.unusedSimpArgs false
namespace Go.Proofs.YtdkfmckbeagenaaGreatDoor
open Go.RowKit Go.FltLaw Go.Lib Go.RankLaw

def ov (o : Ordering) : Value := .int .i64 (num o)
theorem infoI : (Tryz.prog.info? 3).map (fun i => (i.zero, i.size, i.bytes)) = some (some (.int .i64 0), 1, 8) := by kernel_rfl
structure Asked (w wr : World) (bg bf : Array Value) (lv : Value) (L : List Ordering) : Prop where
 pr : Pair w wr bg bf
 row : wr.ownsRow (w.heap.size + 2) 3 1 lv L.length (L.map ov)
section
variable {w wr w2 w4 : World} {bg bf : Array Value} {lv : Value} {L : List Ordering}
theorem asked_start (h : Pair w wr bg bf) (a b c d : Ordering) : Asked w (wr.alloc (.cells #[ov a, ov b, ov c, ov d] 3)) bg bf (.slice (some ⟨wr.heap.size, 0, none⟩) 4 4) [a, b, c, d] := by
 have hs := h.size
 refine ⟨h.later ((Below.refl _ _).alloc hs _), ?_⟩
 exact World.ownsRow_lit wr #[ov a, ov b, ov c, ov d] 4 hs (by simp [maxLen]) rfl
theorem Asked.grown {g cap : Nat} {o : Obj} {M : List Ordering} (h : Asked w wr bg bf lv L) (hg : (wr.alloc o).grownBy w4 lv.ownBlock) (ho : w4.ownsRow (w.heap.size + 2) 3 1 (.slice (some ⟨g, 0, none⟩) (L.length + M.length) cap) (L.length + M.length) (L.map ov ++ M.map ov)) :
  Asked w w4 bg bf (.slice (some ⟨g, 0, none⟩) (L.length + M.length) cap) (L ++ M) := by
 have hs := h.pr.size
 have hb : Below (w.heap.size + 2) wr w4 := ((Below.refl _ _).alloc hs o).grown hg (by simp; omega) fun k e => (h.row.lt k e).1
 refine ⟨h.pr.later hb, ?_⟩
 rw [List.length_append, List.map_append]
 exact ho
theorem Asked.drew (h : Asked w wr bg bf lv L) : Asked w wr.drew bg bf lv L := ⟨⟨h.pr.below.drew, h.pr.gb, h.pr.fb⟩, h.row.drew⟩
theorem Asked.up {o : Obj} (h : Asked w wr bg bf lv L) (hg : (wr.alloc o).grownBy w4 lv.ownBlock) : Below (w.heap.size + 2) wr w4 := ((Below.refl _ _).alloc h.pr.size o).grown hg (by have := h.pr.size; simp; omega) fun k e => (h.row.lt k e).1
theorem Asked.later (h : Asked w wr bg bf lv L) (hb : Below wr.heap.size wr w2) : Asked w w2 bg bf lv L :=
 ⟨h.pr.later (hb.mono h.pr.size), own_later h.row hb⟩
theorem Asked.set {g cap : Nat} (h : Asked w wr bg bf (.slice (some ⟨g, 0, none⟩) L.length cap) L) (j : Nat) (o : Ordering) : Asked w (wr.setCell ⟨g, j, none⟩ (ov o)) bg bf (.slice (some ⟨g, 0, none⟩) L.length cap) (L.set j o) := by
 have hg := (row_form h.row).1
 refine ⟨h.pr.later ((Below.refl _ _).setCell (p := ⟨g, j, none⟩) hg _), ?_⟩
 have := (h.row.stored j (ov o)).1
 rw [List.length_set, List.map_set]
 exact this
end
theorem one_ov (o : Ordering) : ∀ u ∈ [ov o], u.oneCell' = true := by simp [ov, Value.oneCell']
theorem ov_at {w : World} {B g m c : Nat} {L : List Ordering} (h : w.ownsRow B 3 1 (.slice (some ⟨g, 0, none⟩) m c) m (L.map ov)) {j : Nat} {o : Ordering} (ho : L[j]? = some o) : w.cell? ⟨g, j, none⟩ = some (.int .i64 (num o)) :=
 row_cell h (by rw [List.getElem?_map, ho]; rfl)
theorem three_ov (a b c : Ordering) : ∀ u ∈ [ov a, ov b, ov c], u.oneCell' = true := by simp [ov, Value.oneCell']
theorem asked_fin {w wr : World} {bg bf : Array Value} {g m cap : Nat} {L : List Ordering} (hA : Asked w wr bg bf (.slice (some ⟨g, 0, none⟩) m cap) L) (hm : m = L.length) :
  ∃ g' cap', Value.slice (some ⟨g, 0, none⟩) m cap = .slice (some ⟨g', 0, none⟩) L.length cap' ∧ Asked w wr bg bf (.slice (some ⟨g, 0, none⟩) m cap) L := ⟨g, cap, by rw [hm], hA⟩
theorem asked_more {w wr w4 : World} {bg bf : Array Value} {g m cap g5 cap5 : Nat} {L : List Ordering} {o : Obj} {b : Ordering} (hA : Asked w wr bg bf (.slice (some ⟨g, 0, none⟩) m cap) L) (hm : m = L.length) (hg : (wr.alloc o).grownBy w4 (Value.slice (some ⟨g, 0, none⟩) m cap).ownBlock)
  (ho : w4.ownsRow (w.heap.size + 2) 3 1 (.slice (some ⟨g5, 0, none⟩) (m + 1) cap5) (m + 1) (L.map ov ++ [ov b])) : Asked w w4 bg bf (.slice (some ⟨g5, 0, none⟩) (m + 1) cap5) (L ++ [b]) := by
 subst hm
 exact hA.grown (M := [b]) hg ho
theorem asked_last {w wr : World} {bg bf : Array Value} {g m cap : Nat} {L : List Ordering} {b : Ordering} (hA : Asked w wr bg bf (.slice (some ⟨g, 0, none⟩) (m + 1) cap) (L ++ [b])) (hm : m = L.length) (o : Ordering) :
  wr.cell? ⟨g, m, none⟩ = some (.int .i64 (num b)) ∧ wr.frozen? ⟨g, m, none⟩ = false ∧ Asked w (wr.setCell ⟨g, m, none⟩ (ov o)) bg bf (.slice (some ⟨g, 0, none⟩) (m + 1) cap) (L ++ [o]) := by
 subst hm
 have hr := hA.row
 have e : (L ++ [b]).length = L.length + 1 := by simp
 rw [e] at hr
 refine ⟨ov_at hr (by simp), hr.frozenAt _, ?_⟩
 have h2 : Asked w wr bg bf (.slice (some ⟨g, 0, none⟩) (L ++ [b]).length cap) (L ++ [b]) := by rw [e]; exact hA
 have h3 := h2.set L.length o
 rw [e] at h3
 simpa using h3
theorem number_len (a b : Nat) (w : World) : Calls Tryz.prog 60 #[.int .i64 (a : Int), .int .i64 (b : Int)] w fun e w' => e = .returned (.int .i64 (num (compare a b))) ∧ w' = w := by
 have h := number_p a b w
 have e : compare (a : Int) (b : Int) = compare a b := by
  simp only [compare, compareOfLessAndEq]
  by_cases h1 : a < b
  ·rw [if_pos (by omega), if_pos h1]
  ·rw [if_neg (by omega), if_neg h1]
   by_cases h2 : a = b
   ·rw [if_pos (by omega), if_pos h2]
   ·rw [if_neg (by omega), if_neg h2]
 rw [e] at h
 exact h
set_option maxHeartbeats 3200000 in
set_option maxRecDepth 100000 in
theorem cmp_r : ∀ (fuel : Nat) (f g : Flt) (vf vg : Value) (w : World) (B B' : Nat), FAt false w 0 B fuel f vf → FAt false w 0 B' fuel g vg → B ≤ w.heap.size → B' ≤ w.heap.size →
  Calls Tryz.prog 40 #[vf, vg] w (CmpEnd f g w) := by
 intro fuel
 induction fuel with
 | zero => intro f g vf vg w B B' h; exact h.elim
 | succ fuel ih =>
  intro f g vf vg w B B' hF hG hB hB'
  obtain ⟨k, ks, ds, vl, st, ms, fn, rl, dn⟩ := f
  obtain ⟨k', ks', ds', vl', st', ms', fn', rl', dn'⟩ := g
  obtain ⟨KA, kc, MA, mc, rfl, hfit, hmA, hkA, _⟩ := hF
  obtain ⟨KA', kc', MA', mc', rfl, hfit', hmA', hkA', _⟩ := hG
  have IH := Lib.hid ih
  have HM := Lib.hid hmA
  have HK := Lib.hid hkA
  have HM' := Lib.hid hmA'
  have HK' := Lib.hid hkA'
  have k0 := hfit.k0
  have k1 := hfit.k1
  have k0' := hfit'.k0
  have k1' := hfit'.k1
  have b1 := hfit.kn1
  have b2 := hfit.mn1
  have b1' := hfit'.kn1
  have b2' := hfit'.mn1
  have HCF := Lib.hid (cmp_first k k' ks ks' ds vl st ds' vl' st' ms ms' fn rl fn' rl' dn dn')
  have HPS := Lib.hid (pair_start w #[.int .i8 k, .slice KA ks.length kc, .string ⟨ds.toArray⟩, .string ⟨vl.toArray⟩, .string ⟨st.toArray⟩, .slice MA ms.length mc, .string ⟨fn.toArray⟩, .string ⟨rl.toArray⟩, .bool dn] #[.int .i8 k', .slice KA' ks'.length kc', .string ⟨ds'.toArray⟩, .string ⟨vl'.toArray⟩, .string ⟨st'.toArray⟩, .slice MA' ms'.length mc', .string ⟨fn'.toArray⟩, .string ⟨rl'.toArray⟩, .bool dn'])
  obtain ⟨i0, hi, hz0, hz1, hz2⟩ := info_parts infoI
  clear ih hfit hfit' hmA hkA hmA' hkA'
  unfold flt
  go_enter Tryz.func40, Tryz.ntmps40
  go_upto_region 1 with fail
  obtain ⟨⟨a0, a1, a2, a3, a4, a5, a6, a7, a8⟩, d0, d1, d2, d3, d4, d5, d6, d7, d8⟩ := HPS.out.nine
  have e1 : IntKind.i64.wrap k = k := IntWalk.i64_in _ (by omega)
  have e2 : IntKind.i64.wrap k' = k' := IntWalk.i64_in _ (by omega)
  generalize (w.alloc (.cells #[.int .i8 k, .slice KA ks.length kc, .string ⟨ds.toArray⟩, .string ⟨vl.toArray⟩, .string ⟨st.toArray⟩, .slice MA ms.length mc, .string ⟨fn.toArray⟩, .string ⟨rl.toArray⟩, .bool dn] 26)).alloc (.cells #[.int .i8 k', .slice KA' ks'.length kc', .string ⟨ds'.toArray⟩, .string ⟨vl'.toArray⟩, .string ⟨st'.toArray⟩, .slice MA' ms'.length mc', .string ⟨fn'.toArray⟩, .string ⟨rl'.toArray⟩, .bool dn'] 26) = w1 at HPS a0 a1 a2 a3 a4 a5 a6 a7 a8 d0 d1 d2 d3 d4 d5 d6 d7 d8 ⊢
  go_still_tail 22, (by kernel_rfl)
  still_call (number_p k k' _)
  repeat still_step
  still_call (sign_r ds ds' _)
  repeat still_step
  still_call (sign_r vl vl' _)
  repeat still_step
  still_call (sign_r st st' _)
  repeat still_step
  refine wpStill_nil ?_
  change wpList _ _ _ _ _ w1.drew
  have HP2 : Hid (Pair w w1.drew #[.int .i8 k, .slice KA ks.length kc, .string ⟨ds.toArray⟩, .string ⟨vl.toArray⟩, .string ⟨st.toArray⟩, .slice MA ms.length mc, .string ⟨fn.toArray⟩, .string ⟨rl.toArray⟩, .bool dn] #[.int .i8 k', .slice KA' ks'.length kc', .string ⟨ds'.toArray⟩, .string ⟨vl'.toArray⟩, .string ⟨st'.toArray⟩, .slice MA' ms'.length mc', .string ⟨fn'.toArray⟩, .string ⟨rl'.toArray⟩, .bool dn']) := Lib.hid ⟨HPS.out.below.drew, HPS.out.gb, HPS.out.fb⟩
  generalize w1.drew = w2 at HP2 ⊢
  clear HPS e1 e2 a0 a1 a2 a3 a4 a5 a6 a7 a8 d0 d1 d2 d3 d4 d5 d6 d7 d8
  obtain ⟨L4, hL4⟩ : ∃ L, L = [compare k k', txtCmp ds ds', txtCmp vl vl', txtCmp st st'] := ⟨_, rfl⟩
  have hl4 : L4.length ≤ 4 := by rw [hL4]; exact Nat.le_refl _
  have HL4 := Lib.hid hL4
  have HA4 : Hid (Asked w (w2.alloc (.cells #[ov (compare k k'), ov (txtCmp ds ds'), ov (txtCmp vl vl'), ov (txtCmp st st')] 3)) #[.int .i8 k, .slice KA ks.length kc, .string ⟨ds.toArray⟩, .string ⟨vl.toArray⟩, .string ⟨st.toArray⟩, .slice MA ms.length mc, .string ⟨fn.toArray⟩, .string ⟨rl.toArray⟩, .bool dn] #[.int .i8 k', .slice KA' ks'.length kc', .string ⟨ds'.toArray⟩, .string ⟨vl'.toArray⟩, .string ⟨st'.toArray⟩, .slice MA' ms'.length mc', .string ⟨fn'.toArray⟩, .string ⟨rl'.toArray⟩, .bool dn'] (.slice (some ⟨w2.heap.size, 0, none⟩) 4 4) L4) := Lib.hid (hL4 ▸ asked_start HP2.out _ _ _ _)
  clear hL4
  go_wp2_with fail
  go_loopw [5, 6] (fun lv i wr => ∃ (j : Nat) (L : List Ordering), j ≤ min ms.length ms'.length ∧ i = .int .i64 j ∧ Hid (L = L4 ++ (List.zipWith txtCmp ms ms').take j) ∧ L.length ≤ 4 + j ∧ Asked w wr #[.int .i8 k, .slice KA ks.length kc, .string ⟨ds.toArray⟩, .string ⟨vl.toArray⟩, .string ⟨st.toArray⟩, .slice MA ms.length mc, .string ⟨fn.toArray⟩, .string ⟨rl.toArray⟩, .bool dn] #[.int .i8 k', .slice KA' ks'.length kc', .string ⟨ds'.toArray⟩, .string ⟨vl'.toArray⟩, .string ⟨st'.toArray⟩, .slice MA' ms'.length mc', .string ⟨fn'.toArray⟩, .string ⟨rl'.toArray⟩, .bool dn'] lv L) (fun _ i _ => min ms.length ms'.length - (RowKit.intOf i).toNat)
  case atStart => exact ⟨0, L4, by omega, rfl, Lib.hid (by rw [List.take_zero, List.append_nil]), by omega, HA4.out⟩
  case round =>
   obtain ⟨j, L, hj, rfl, HL, hll, hA⟩ := hrel
   have HA := Lib.hid hA
   obtain ⟨⟨a0, a1, a2, a3, a4, a5, a6, a7, a8⟩, d0, d1, d2, d3, d4, d5, d6, d7, d8⟩ := hA.pr.nine
   have hb1 : Below B w _ := hA.pr.below.mono hB
   have hb2 : Below B' w _ := hA.pr.below.mono hB'
   have hsz := hA.pr.size
   clear hA HA4
   by_cases hlt : j < min ms.length ms'.length
   ·obtain ⟨ad, rfl, _, hadB, hel⟩ := HM.out (by omega)
    obtain ⟨ad', rfl, _, hadB', hel'⟩ := HM'.out (by omega)
    have hke := List.getElem?_eq_getElem (l := ms) (i := j) (by omega)
    have hke' := List.getElem?_eq_getElem (l := ms') (i := j) (by omega)
    have HE := Lib.hid hke
    have HE' := Lib.hid hke'
    generalize ms[j] = q at hke HE
    generalize ms'[j] = q' at hke' HE'
    have m1 := (hb1.cell (p := ad.add j) (by rw [RankLaw.add_block]; exact hadB)).trans (hel j q hke)
    have m2 := (hb2.cell (p := ad'.add j) (by rw [RankLaw.add_block]; exact hadB')).trans (hel' j q' hke')
    unfold txt at m1 m2
    have hj7 : j < ms.length := by omega
    have hj8 : j < ms'.length := by omega
    have hj3 : decide ((ms.length : Int) ≤ (j : Int)) = false := by simp; omega
    have hj4 : decide (ms.length ≤ j) = false := by simp; omega
    have hj5 : decide ((ms'.length : Int) ≤ (j : Int)) = false := by simp; omega
    have hj6 : decide (ms'.length ≤ j) = false := by simp; omega
    have hsof : ∀ w' : World, Below (w.heap.size + 2) wr w' → w'.cell? ⟨w.heap.size, 5, none⟩ = some (.slice (some ad) ms.length mc) ∧ w'.cell? ⟨w.heap.size + 1, 5, none⟩ = some (.slice (some ad') ms'.length mc') ∧ w'.cell? (ad.add j) = some (.string ⟨q.toArray⟩) ∧ w'.cell? (ad'.add j) = some (.string ⟨q'.toArray⟩) := fun w' hb =>
     ⟨(hb.cell (by show w.heap.size < _; omega)).trans a5, (hb.cell (by show w.heap.size + 1 < _; omega)).trans d5, (hb.cell (by rw [RankLaw.add_block]; omega)).trans m1, (hb.cell (by rw [RankLaw.add_block]; omega)).trans m2⟩
    have SOF := Lib.hid hsof
    have HAD := Lib.hid HA.out.drew
    have hsz3 : w.heap.size + 2 ≤ wr.heap.size := hsz
    clear hel hel' hke hke' hb1 hb2 hsof
    go_upto_region 5 with fail
    clear a0 a1 a2 a3 a4 a5 a6 a7 a8 d0 d1 d2 d3 d4 d5 d6 d7 d8 m1 m2
    go_region_held3 (fun w' => w'.cell? ⟨w.heap.size, 5, none⟩ = some (.slice (some ad) ms.length mc) ∧ w'.cell? ⟨w.heap.size + 1, 5, none⟩ = some (.slice (some ad') ms'.length mc') ∧ w'.cell? (ad.add j) = some (.string ⟨q.toArray⟩) ∧ w'.cell? (ad'.add j) = some (.string ⟨q'.toArray⟩)) (first
     | exact SOF.out _ (Below.refl _ _).drew
     | exact SOF.out _ ((Below.refl _ _).drew.alloc (by simp; omega) _)
     | exact S4.out) (first
     | (refine step_append_lies _ (by rfl) _ _ _ (by rfl) (w.heap.size + 2) 3 i0 _ 1 8 Tryz.underlying84 hi hz0 hz1 hz2 rfl (by omega) u5 L.length (L.map ov) (by rfl) (HAD.out.row.alloc _) ⟨wr.heap.size, 0, none⟩ 1 1 [ov (txtCmp q q')] (by rfl) (by rfl) (news_new wr.drew #[ov (txtCmp q q')] _ rfl) (one_ov _) (by omega) (by unfold maxLen; omega) (by omega) (by simp; omega) (wr.heap.size + 1) (by simp) ?_; intro g cap w4 hown4 hg4 hat4 hlt4; have HA4 := Lib.hid (HAD.out.grown (M := [txtCmp q q']) hg4 hown4); have S4 := Lib.hid (SOF.out w4 (((Below.refl _ wr).drew).trans (HAD.out.up hg4))); clear hown4 hg4 hat4)
     | (go_at_call 61; (with_reducible refine (sign_r q q' _).mono ?_); rintro e w3 ⟨rfl, rfl⟩))
    go_wp2_with fail
    go_round
    case rel => exact ⟨j + 1, L ++ [txtCmp q q'], by omega, by go_num, Lib.hid (by rw [zip_take txtCmp ms ms' j q q' HE.out HE'.out, ← List.append_assoc, ← HL.out]), by simp; omega, HA4.out⟩
    case measure => simp [RowKit.intOf]; omega
   ·have ej : j = min ms.length ms'.length := by omega
    have hL : L = L4 ++ List.zipWith txtCmp ms ms' := by
     rw [HL.out, List.take_of_length_le (by rw [List.length_zipWith]; omega)]
    have HLL := Lib.hid hL
    clear hL HL hb1 hb2 HM HM'
    by_cases hj1 : j < ms.length
    all_goals
     have hsof : ∀ w' : World, Below (w.heap.size + 2) wr w' → w'.cell? ⟨w.heap.size, 5, none⟩ = some (.slice MA ms.length mc) ∧ w'.cell? ⟨w.heap.size, 6, none⟩ = some (.string ⟨fn.toArray⟩) ∧ w'.cell? ⟨w.heap.size, 7, none⟩ = some (.string ⟨rl.toArray⟩) ∧ w'.cell? ⟨w.heap.size + 1, 5, none⟩ = some (.slice MA' ms'.length mc') ∧ w'.cell? ⟨w.heap.size + 1, 6, none⟩ = some (.string ⟨fn'.toArray⟩) ∧ w'.cell? ⟨w.heap.size + 1, 7, none⟩ = some (.string ⟨rl'.toArray⟩) := fun w' hb =>
      ⟨(hb.cell (by show w.heap.size < _; omega)).trans a5, (hb.cell (by show w.heap.size < _; omega)).trans a6, (hb.cell (by show w.heap.size < _; omega)).trans a7, (hb.cell (by show w.heap.size + 1 < _; omega)).trans d5, (hb.cell (by show w.heap.size + 1 < _; omega)).trans d6, (hb.cell (by show w.heap.size + 1 < _; omega)).trans d7⟩
     have SOF := Lib.hid hsof
     have HAD := Lib.hid HA.out.drew
     clear hsof
     go_upto_region 6 with fail
     clear a0 a1 a2 a3 a4 a5 a6 a7 a8 d0 d1 d2 d3 d4 d5 d6 d7 d8
     go_region_held3 (fun w' => w'.cell? ⟨w.heap.size, 5, none⟩ = some (.slice MA ms.length mc) ∧ w'.cell? ⟨w.heap.size, 6, none⟩ = some (.string ⟨fn.toArray⟩) ∧ w'.cell? ⟨w.heap.size, 7, none⟩ = some (.string ⟨rl.toArray⟩) ∧ w'.cell? ⟨w.heap.size + 1, 5, none⟩ = some (.slice MA' ms'.length mc') ∧ w'.cell? ⟨w.heap.size + 1, 6, none⟩ = some (.string ⟨fn'.toArray⟩) ∧ w'.cell? ⟨w.heap.size + 1, 7, none⟩ = some (.string ⟨rl'.toArray⟩)) (first
      | exact SOF.out _ (Below.refl _ _).drew
      | exact SOF.out _ ((Below.refl _ _).drew.alloc (by simp; omega) _)
      | exact S4.out) (first
      | (refine step_append_lies _ (by rfl) _ _ _ (by rfl) (w.heap.size + 2) 3 i0 _ 1 8 Tryz.underlying84 hi hz0 hz1 hz2 rfl (by omega) u5 L.length (L.map ov) (by rfl) (HAD.out.row.alloc _) ⟨wr.heap.size, 0, none⟩ 3 3 [ov (compare ms.length ms'.length), ov (txtCmp fn fn'), ov (txtCmp rl rl')] (by rfl) (by rfl) (news_new wr.drew #[ov (compare ms.length ms'.length), ov (txtCmp fn fn'), ov (txtCmp rl rl')] _ rfl) (three_ov _ _ _) (by omega) (by unfold maxLen; omega) (by omega) (by simp; omega) (wr.heap.size + 1) (by simp) ?_; intro g cap w4 hown4 hg4 hat4 hlt4; have HA4 := Lib.hid (HAD.out.grown (M := [compare ms.length ms'.length, txtCmp fn fn', txtCmp rl rl']) hg4 hown4); have S4 := Lib.hid (SOF.out w4 (((Below.refl _ wr).drew).trans (HAD.out.up hg4))); clear hown4 hg4 hat4)
      | (go_at_call 61; (with_reducible refine (sign_r _ _ _).mono ?_); rintro e w3 ⟨rfl, rfl⟩)
      | (go_at_call 60; (with_reducible refine (number_len _ _ _).mono ?_); rintro e w3 ⟨rfl, rfl⟩))
     have hsz4 := HA4.out.pr.size
     have hro := HA4.out.row
     rw [List.length_append] at hro
     obtain ⟨_, _, hcap4, hcap5⟩ := row_form hro
     clear hro
     obtain ⟨⟨a0, a1, a2, a3, a4, a5, a6, a7, a8⟩, d0, d1, d2, d3, d4, d5, d6, d7, d8⟩ := HA4.out.pr.nine
     have hL3 : L.length + 3 = (L ++ [compare ms.length ms'.length, txtCmp fn fn', txtCmp rl rl']).length := by simp
     obtain ⟨L3, hL3e⟩ : ∃ L3, L3 = L ++ [compare ms.length ms'.length, txtCmp fn fn', txtCmp rl rl'] := ⟨_, rfl⟩
     have HL3 := Lib.hid hL3e
     obtain ⟨LA, hLA⟩ : ∃ LA, LA = L3 ++ (if dn = dn' then [] else [boolCmp dn dn']) := ⟨_, rfl⟩
     have HLA := Lib.hid hLA
     have HA4' : Hid (∃ m, m = L3.length ∧ L.length + 3 = m ∧ Asked w w4 #[.int .i8 k, .slice KA ks.length kc, .string ⟨ds.toArray⟩, .string ⟨vl.toArray⟩, .string ⟨st.toArray⟩, .slice MA ms.length mc, .string ⟨fn.toArray⟩, .string ⟨rl.toArray⟩, .bool dn] #[.int .i8 k', .slice KA' ks'.length kc', .string ⟨ds'.toArray⟩, .string ⟨vl'.toArray⟩, .string ⟨st'.toArray⟩, .slice MA' ms'.length mc', .string ⟨fn'.toArray⟩, .string ⟨rl'.toArray⟩, .bool dn'] (.slice (some ⟨g, 0, none⟩) m cap) L3) := Lib.hid ⟨L.length + 3, by rw [hL3e]; exact hL3, rfl, by rw [hL3e]; exact HA4.out⟩
     go_upto_if 85 with fail
     go_cut [5] (fun lv w' => ∃ g cap, lv = .slice (some ⟨g, 0, none⟩) LA.length cap ∧ Asked w w' #[.int .i8 k, .slice KA ks.length kc, .string ⟨ds.toArray⟩, .string ⟨vl.toArray⟩, .string ⟨st.toArray⟩, .slice MA ms.length mc, .string ⟨fn.toArray⟩, .string ⟨rl.toArray⟩, .bool dn] #[.int .i8 k', .slice KA' ks'.length kc', .string ⟨ds'.toArray⟩, .string ⟨vl'.toArray⟩, .string ⟨st'.toArray⟩, .slice MA' ms'.length mc', .string ⟨fn'.toArray⟩, .string ⟨rl'.toArray⟩, .bool dn'] lv LA)
     case first =>
      obtain ⟨m, hm, hm2, hA4⟩ := HA4'.out
      subst hm2
      have hrw := hA4.row
      rw [← hm] at hrw
      have HRW := Lib.hid hrw
      have HAA := Lib.hid hA4
      have HMM := Lib.hid hm
      clear hrw hA4 hm hL3 hL3e hLA HA4 HA4' SOF HAD HA S4
      cases dn <;> cases dn'
      ·have e : LA = L3 := by rw [HLA.out]; simp
       go_wp2_with fail
       go_meet
       case rel => rw [e]; exact asked_fin HAA.out HMM.out
      ·have e : LA = L3 ++ [.lt] := by rw [HLA.out]; rfl
       go_wp2_with (at_builtin; refine wpList_append_lies _ rfl (.tmp 86) (.tmp 87) _ rfl (w.heap.size + 2) 3 i0 _ 1 8 Tryz.underlying84 hi hz0 hz1 hz2 rfl (by decide) (.slice (some ⟨g, 0, none⟩) (L.length + 3) cap) (L.length + 3) (L3.map ov) rfl (HRW.out.alloc _) ⟨w4.heap.size, 0, none⟩ 1 1 [ov .gt] rfl rfl (news_new w4 #[ov .gt] _ rfl) (one_ov _) (by decide) (by unfold maxLen; omega) (by omega) (by simp; omega) _ rfl ?_; intro g5 cap5 w5 ho5 hg5 hat5 hlt5; have HA5 := Lib.hid (asked_more HAA.out HMM.out hg5 ho5); have e8 := HA5.out.pr.nine.2.2.2.2.2.2.2.2.2; obtain ⟨p1, p2, hA6⟩ := asked_last HA5.out HMM.out .lt; have HA6 := Lib.hid hA6; clear ho5 hg5 hat5)
       go_meet
       case rel => rw [e]; exact asked_fin HA6.out (by rw [HMM.out]; simp)
      ·have e : LA = L3 ++ [.gt] := by rw [HLA.out]; rfl
       go_wp2_with (at_builtin; refine wpList_append_lies _ rfl (.tmp 86) (.tmp 87) _ rfl (w.heap.size + 2) 3 i0 _ 1 8 Tryz.underlying84 hi hz0 hz1 hz2 rfl (by decide) (.slice (some ⟨g, 0, none⟩) (L.length + 3) cap) (L.length + 3) (L3.map ov) rfl (HRW.out.alloc _) ⟨w4.heap.size, 0, none⟩ 1 1 [ov .gt] rfl rfl (news_new w4 #[ov .gt] _ rfl) (one_ov _) (by decide) (by unfold maxLen; omega) (by omega) (by simp; omega) _ rfl ?_; intro g5 cap5 w5 ho5 hg5 hat5 hlt5; have HA5 := Lib.hid (asked_more HAA.out HMM.out hg5 ho5); have e8 := HA5.out.pr.nine.2.2.2.2.2.2.2.2.2; clear ho5 hg5 hat5)
       go_meet
       case rel => rw [e]; exact asked_fin HA5.out (by rw [HMM.out]; simp)
      ·have e : LA = L3 := by rw [HLA.out]; simp
       go_wp2_with fail
       go_meet
       case rel => rw [e]; exact asked_fin HAA.out HMM.out
     case rest =>
      obtain ⟨g, cap, rfl, hA⟩ := hcut
      have hCA : cmp (.mk k ks ds vl st ms fn rl dn) (.mk k' ks' ds' vl' st' ms' fn' rl' dn') = (firstO LA).then (lex cmp ks ks') := by
       rw [HCF.out]
       congr 2
       rw [HLA.out, HL3.out, HLL.out, HL4.out]
       rfl
      have HCA := Lib.hid hCA
      have HA := Lib.hid hA
      obtain ⟨_, _, hcp1, hcp2⟩ := row_form hA.row
      unfold maxLen at hcp2
      clear hCA hA hL3 hL3e hLA HA4 HA4' SOF HAD HCF HLA HL3 HLL HL4 S4
      go_wp2_with fail
      go_loopw [7] (fun i wr => ∃ j : Nat, j ≤ LA.length ∧ i = .int .i64 j ∧ Hid (AllEq9 LA j) ∧ Asked w wr #[.int .i8 k, .slice KA ks.length kc, .string ⟨ds.toArray⟩, .string ⟨vl.toArray⟩, .string ⟨st.toArray⟩, .slice MA ms.length mc, .string ⟨fn.toArray⟩, .string ⟨rl.toArray⟩, .bool dn] #[.int .i8 k', .slice KA' ks'.length kc', .string ⟨ds'.toArray⟩, .string ⟨vl'.toArray⟩, .string ⟨st'.toArray⟩, .slice MA' ms'.length mc', .string ⟨fn'.toArray⟩, .string ⟨rl'.toArray⟩, .bool dn'] (.slice (some ⟨g, 0, none⟩) LA.length cap) LA) (fun i _ => LA.length - (RowKit.intOf i).toNat)
      case atStart => exact ⟨0, by omega, rfl, Lib.hid (AllEq9.nil _), HA.out⟩
      case round =>
       clear HA
       obtain ⟨j, hj, rfl, HAL, hA⟩ := hrel
       have HA := Lib.hid hA
       by_cases hlt : j < LA.length
       ·have ho := List.getElem?_eq_getElem hlt
        generalize LA[j] = o at ho
        have HO := Lib.hid ho
        have c1 : wr.cell? ⟨g, j, none⟩ = some (.int .i64 (num o)) := ov_at hA.row ho
        clear hA ho
        go_wp2_with fail
        ·have gg : (num o != 0) = true := by assumption
         have hne : o ≠ .eq := fun e => by rw [e] at gg; cases gg
         go_ret
         exact ⟨by rw [HCA.out, HAL.out.first HO.out hne, then_ne hne]; rfl, HA.out.pr.below⟩
        ·have gg : (num o != 0) = false := by assumption
         have hz : o = .eq := num_zero.1 (by simpa using gg)
         subst hz
         go_round
         case rel => exact ⟨j + 1, by omega, by go_num, Lib.hid (HAL.out.step HO.out), HA.out⟩
         case measure => simp [RowKit.intOf]; omega
       ·have ej : j = LA.length := by omega
        subst ej
        have HKS : Hid (cmp (.mk k ks ds vl st ms fn rl dn) (.mk k' ks' ds' vl' st' ms' fn' rl' dn') = lex cmp ks ks') := Lib.hid (by rw [HCA.out, HAL.out.all]; rfl)
        have HP := Lib.hid hA.pr
        clear hA HA HAL HCA
        go_wp2_with fail
        go_loopw [8] (fun i wr => ∃ (j : Nat), j ≤ min ks.length ks'.length ∧ i = .int .i64 j ∧ Hid (LikeTo cmp ks ks' j) ∧ Pair w wr #[.int .i8 k, .slice KA ks.length kc, .string ⟨ds.toArray⟩, .string ⟨vl.toArray⟩, .string ⟨st.toArray⟩, .slice MA ms.length mc, .string ⟨fn.toArray⟩, .string ⟨rl.toArray⟩, .bool dn] #[.int .i8 k', .slice KA' ks'.length kc', .string ⟨ds'.toArray⟩, .string ⟨vl'.toArray⟩, .string ⟨st'.toArray⟩, .slice MA' ms'.length mc', .string ⟨fn'.toArray⟩, .string ⟨rl'.toArray⟩, .bool dn']) (fun i _ => min ks.length ks'.length - (RowKit.intOf i).toNat)
        case atStart => exact ⟨0, by omega, rfl, Lib.hid LikeTo.start, HP.out⟩
        case round =>
         clear HP
         obtain ⟨j, hj, rfl, HLK, hP⟩ := hrel
         have HP := Lib.hid hP
         obtain ⟨⟨a0, a1, a2, a3, a4, a5, a6, a7, a8⟩, d0, d1, d2, d3, d4, d5, d6, d7, d8⟩ := hP.nine
         have hb1 : Below B w _ := hP.below.mono hB
         have hb2 : Below B' w _ := hP.below.mono hB'
         have hsz := hP.size
         clear hP
         by_cases hlt : j < min ks.length ks'.length
         ·obtain ⟨ad, rfl, _, hadB, hel⟩ := HK.out (by omega)
          obtain ⟨ad', rfl, _, hadB', hel'⟩ := HK'.out (by omega)
          have hke := List.getElem?_eq_getElem (l := ks) (i := j) (by omega)
          have hke' := List.getElem?_eq_getElem (l := ks') (i := j) (by omega)
          have HE := Lib.hid hke
          have HE' := Lib.hid hke'
          generalize ks[j] = q at hke HE
          generalize ks'[j] = q' at hke' HE'
          obtain ⟨fv, hfv, hcells⟩ := hel j _ hke
          obtain ⟨fv', hfv', hcells'⟩ := hel' j _ hke'
          have HFV := Lib.hid (hfv.below hb1)
          have HFV' := Lib.hid (hfv'.below hb2)
          obtain ⟨x0, x1, x2, x3, x4, x5, x6, x7, x8, rfl⟩ := (FAt.form hfv)
          obtain ⟨y0, y1, y2, y3, y4, y5, y6, y7, y8, rfl⟩ := (FAt.form hfv')
          obtain ⟨l0, l1, l2, l3, l4, l5, l6, l7, l8⟩ := nine_at (m := j * 9) (fun q u hu => (hb1.cell (p := ad.add (j * 9 + q)) (by rw [RankLaw.add_block]; exact hadB)).trans (hcells q u hu))
          obtain ⟨m0, m1, m2, m3, m4, m5, m6, m7, m8⟩ := nine_at (m := j * 9) (fun q u hu => (hb2.cell (p := ad'.add (j * 9 + q)) (by rw [RankLaw.add_block]; exact hadB')).trans (hcells' q u hu))
          have hj3 : decide ((ks.length : Int) ≤ (j : Int)) = false := by simp; omega
          have hj4 : decide (ks.length ≤ j) = false := by simp; omega
          have hj5 : decide ((ks'.length : Int) ≤ (j : Int)) = false := by simp; omega
          have hj6 : decide (ks'.length ≤ j) = false := by simp; omega
          have hj7 : j < ks.length := by omega
          have hj8 : j < ks'.length := by omega
          clear hel hel' hke hke' hb1 hb2 hfv hfv' hcells hcells'
          go_upto_region 19 with fail
          have hc : ∀ (d : Nat) (os : Array Obj), Calls Tryz.prog 40 #[.agg #[x0, x1, x2, x3, x4, x5, x6, x7, x8], .agg #[y0, y1, y2, y3, y4, y5, y6, y7, y8]] (Sort.grow (redrawn wr d) os) fun e w'' => e = .returned (.int .i64 (num (cmp q q'))) ∧ ∃ p : Regrown, w'' = Sort.grow (redrawn wr p.d) p.os := fun d os => by
           have hb := below_regrown wr d os
           have hs := hb.size
           exact Calls.regrown_of (IH.out q q' _ _ _ B B' (HFV.out.below (hb.mono (by omega))) (HFV'.out.below (hb.mono (by omega))) (by omega) (by omega))
          have a1' := fun d os => cell_regrown a1 d os
          have d1' := fun d os => cell_regrown d1 d os
          have l0' := fun d os => cell_regrown l0 d os
          have l1' := fun d os => cell_regrown l1 d os
          have l2' := fun d os => cell_regrown l2 d os
          have l3' := fun d os => cell_regrown l3 d os
          have l4' := fun d os => cell_regrown l4 d os
          have l5' := fun d os => cell_regrown l5 d os
          have l6' := fun d os => cell_regrown l6 d os
          have l7' := fun d os => cell_regrown l7 d os
          have l8' := fun d os => cell_regrown l8 d os
          have m0' := fun d os => cell_regrown m0 d os
          have m1' := fun d os => cell_regrown m1 d os
          have m2' := fun d os => cell_regrown m2 d os
          have m3' := fun d os => cell_regrown m3 d os
          have m4' := fun d os => cell_regrown m4 d os
          have m5' := fun d os => cell_regrown m5 d os
          have m6' := fun d os => cell_regrown m6 d os
          have m7' := fun d os => cell_regrown m7 d os
          have m8' := fun d os => cell_regrown m8 d os
          have HC := Lib.hid hc
          clear hc a0 a1 a2 a3 a4 a5 a6 a7 a8 d0 d1 d2 d3 d4 d5 d6 d7 d8 l0 l1 l2 l3 l4 l5 l6 l7 l8 m0 m1 m2 m3 m4 m5 m6 m7 m8
          refine wp_region_quiet_below l106.mixed (by kernel_rfl) ?_
          repeat (quiet_step (with_reducible exact HC.out _ _))
          refine wpQuiet_nil ?_
          intro _ hw'
          obtain ⟨⟨dq, osq⟩, hw''⟩ := hw'
          subst hw''
          have HB5 := Lib.hid (HP.out.later ((below_regrown wr dq osq).mono hsz))
          clear a1' d1' l0' l1' l2' l3' l4' l5' l6' l7' l8' m0' m1' m2' m3' m4' m5' m6' m7' m8' hj3 hj4 hj5 hj6 hj7 hj8
          go_wp2_with fail
          ·have gg : (num (cmp q q') != 0) = true := by assumption
           have hne : cmp q q' ≠ .eq := fun e => by rw [e] at gg; cases gg
           go_ret
           exact ⟨by rw [HKS.out, HLK.out.differ HE.out HE'.out hne]; rfl, HB5.out.below⟩
          ·have gg : (num (cmp q q') != 0) = false := by assumption
           have hz : cmp q q' = .eq := num_zero.1 (by simpa using gg)
           go_round
           case rel => exact ⟨j + 1, by omega, by go_num, Lib.hid (HLK.out.step HE.out HE'.out hz), HB5.out⟩
           case measure => simp [RowKit.intOf]; omega
         ·have ej : j = min ks.length ks'.length := by omega
          have HLEN := Lib.hid (HLK.out.done ej)
          clear hb1 hb2 HLK HK HK'
          by_cases hj1 : j < ks.length
          all_goals
           go_wp2_with (go_at_call 60; (with_reducible refine (number_len _ _ _).mono ?_); rintro e w4 ⟨rfl, rfl⟩)
           go_ret
           exact ⟨by rw [HKS.out, HLEN.out]; rfl, HP.out.below⟩
end Go.Proofs.YtdkfmckbeagenaaGreatDoor
