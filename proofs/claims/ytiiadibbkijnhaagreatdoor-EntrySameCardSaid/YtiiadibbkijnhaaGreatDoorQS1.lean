/-
  Two entries that are the same, byte by byte: slices.Equal, entry.Same, rosterref08.Same.
  entry.Same: slices.EqualFunc over its closure; rosterref08.Same.
  rosterref08.Same.
-/
import Derived.Test.YtiiadibbkijnhaaGreatDoorEntAt
import Derived.Test.YtiiadibbkijnhaaGreatDoorProg
import Derived.WalkKit
import Derived.Outline
import Derived.Lib.Hide
import Derived.OneCell
import Derived.Laws.Rows
import Derived.RegionTactic
import Derived.Deep.Cut
import Derived.Deep.DeepCutAuto
import Derived.BigRegion
import Derived.BigQuiet
import Derived.Deep.QuietTactic
import Derived.Deep.RegionWith
namespace Go.Proofs.YtiiadibbkijnhaaGreatDoor
open Go.RowKit Go.FltLaw Go.EntLaw Go.Lib Go.RankLaw

theorem below_d8 {B : Nat} {a w : World} (h : Below B a w) (q : Nat) : Below B a (w.drewN q) := ⟨h.os, h.tape, h.output, h.size, h.block⟩
theorem take_step {α : Type} {a b : List α} {j : Nat} {q : α} (h : a.take j = b.take j) (ha : a[j]? = some q) (hb : b[j]? = some q) : a.take (j + 1) = b.take (j + 1) := by
  rw [List.take_add_one, List.take_add_one, h, ha, hb]
theorem differ {α : Type} [DecidableEq α] {a b : List α} {j : Nat} {q q' : α} (ha : a[j]? = some q) (hb : b[j]? = some q') (h : q ≠ q') : decide (a = b) = false := by
  rw [decide_eq_false_iff_not]
  intro e
  rw [e, hb] at ha
  exact h (Option.some.inj ha.symm)
theorem differ_len {α : Type} [DecidableEq α] {a b : List α} (h : a.length ≠ b.length) : decide (a = b) = false := by
  rw [decide_eq_false_iff_not]
  exact fun e => h (by rw [e])
theorem take_all {α : Type} [DecidableEq α] {a b : List α} (hl : a.length = b.length) (h : a.take a.length = b.take a.length) : decide (a = b) = true := by
  rw [List.take_length, hl, List.take_length] at h
  simpa using h

set_option maxHeartbeats 1600000 in
set_option maxRecDepth 100000 in
theorem equal_p (ms ms' : List (List UInt8)) (A A' : Option Addr) (c c' : Nat) (w : World) (B B' : Nat) (h : VAt w 0 B ms A c) (h' : VAt w 0 B' ms' A' c') (hB : B ≤ w.heap.size) (hB' : B' ≤ w.heap.size) :
    Calls Tryz.prog 44 #[.slice A ms.length c, .slice A' ms'.length c'] w fun e w' => e = .returned (.bool (decide (ms = ms'))) ∧ Below w.heap.size w w' := by
  have H := Lib.hid h
  have H' := Lib.hid h'
  have hn := h.n1
  clear h h'
  by_cases hl : ms.length = ms'.length
  · have HL := Lib.hid hl
    rw [← hl]
    clear hl
    go_enter Tryz.func44, Tryz.ntmps44
    go_wp2_with fail
    go_loopw [13] (fun i wr => ∃ (j : Nat), j ≤ ms.length ∧ i = .int .i64 j ∧ ms.take j = ms'.take j ∧ Below w.heap.size w wr) (fun i _ => ms.length - (RowKit.intOf i).toNat)
    case atStart => exact ⟨0, Nat.zero_le _, rfl, rfl, Below.refl _ _⟩
    case round =>
      obtain ⟨j, hj, rfl, ht, hb⟩ := hrel
      have HT := Lib.hid ht
      have HB := Lib.hid hb
      clear ht
      by_cases hlt : j < ms.length
      · obtain ⟨ad, rfl, _, hadB, hel⟩ := H.out.at_ (by omega)
        obtain ⟨ad', rfl, _, hadB', hel'⟩ := H'.out.at_ (by have := HL.out; omega)
        have hk := List.getElem?_eq_getElem hlt
        generalize ms[j] = q at hk
        have hk' := List.getElem?_eq_getElem (l := ms') (i := j) (by have := HL.out; omega)
        generalize ms'[j]'(by have := HL.out; omega) = q' at hk'
        have m1 := ((hb.mono hB).cell (p := ad.add j) (by rw [RankLaw.add_block]; exact hadB)).trans (hel j q hk)
        have m2 := ((hb.mono hB').cell (p := ad'.add j) (by rw [RankLaw.add_block]; exact hadB')).trans (hel' j q' hk')
        unfold txt at m1 m2
        have hj2 : (j : Int) < (ms.length : Int) := by omega
        have hj3 : decide ((ms.length : Int) ≤ (j : Int)) = false := by simp; omega
        have hj4 : decide (ms.length ≤ j) = false := by simp; omega
        by_cases hq : q = q'
        · subst hq
          have HK := Lib.hid (take_step HT.out hk hk')
          clear hel hel' hk hk' hb
          go_wp2_with fail
          go_quiet (fail)
          go_wp2_with fail
          go_round
          case rel => exact ⟨j + 1, by omega, by go_num, HK.out, below_d8 HB.out _⟩
          case measure => simp [RowKit.intOf]; omega
        · have HD := Lib.hid (differ hk hk' hq)
          have hne : (q == q') = false := by simpa using hq
          clear hel hel' hk hk' hb hq
          go_wp2_with fail
          go_quiet (fail)
          go_wp2_with fail
          go_ret
          exact ⟨by rw [HD.out]; rfl, below_d8 HB.out _⟩
      · have ej : j = ms.length := by omega
        subst ej
        have HD := Lib.hid (take_all HL.out HT.out)
        clear hb
        go_wp2_with fail
        go_ret
        exact ⟨by rw [HD.out]; rfl, HB.out⟩
  · have HD := Lib.hid (differ_len hl)
    have hl2 : ¬ (ms.length : Int) = (ms'.length : Int) := by omega
    go_enter Tryz.func44, Tryz.ntmps44
    go_wp2_with fail
    go_ret
    exact ⟨by rw [HD.out]; rfl, Below.refl _ _⟩
end Go.Proofs.YtiiadibbkijnhaaGreatDoor

namespace Go.Proofs.YtiiadibbkijnhaaGreatDoor
open Go.RowKit Go.FltLaw Go.EntLaw Go.Lib Go.RankLaw

theorem atr_ds {a a' : Atr} (h : a.ds ≠ a'.ds) : decide (a = a') = false := by
  rw [decide_eq_false_iff_not]
  exact fun e => h (by rw [e])
theorem atr_vs {a a' : Atr} (h : a.ds = a'.ds) : decide (a.vs = a'.vs) = decide (a = a') := by
  obtain ⟨d, v⟩ := a
  obtain ⟨d', v'⟩ := a'
  simp only at h
  subst h
  simp

set_option maxHeartbeats 1600000 in
set_option maxRecDepth 100000 in
theorem same1_p (a a' : Atr) (A A' : Option Addr) (c c' : Nat) (w : World) (B B' : Nat) (h : VAt w 0 B a.vs A c) (h' : VAt w 0 B' a'.vs A' c') (hB : B ≤ w.heap.size) (hB' : B' ≤ w.heap.size) :
    Calls Tryz.prog 43 #[.agg #[.string ⟨a.ds.toArray⟩, .slice A a.vs.length c], .agg #[.string ⟨a'.ds.toArray⟩, .slice A' a'.vs.length c']] w fun e w' => e = .returned (.bool (decide (a = a'))) ∧ Below w.heap.size w w' := by
  have hb0 : ∀ o o', Below w.heap.size w ((w.alloc o).alloc o') := fun o o' => ((Below.refl _ w).alloc (Nat.le_refl _) o).alloc (by simp) o'
  have HB0 := Lib.hid hb0
  have H := Lib.hid h
  have H' := Lib.hid h'
  clear h h' hb0
  by_cases hd : a.ds = a'.ds
  · have HE := Lib.hid (atr_vs hd)
    rw [← hd]
    clear hd
    go_enter Tryz.func43, Tryz.ntmps43
    go_wp2_with (go_at_call 44; (with_reducible refine (equal_p a.vs a'.vs A A' c c' _ B B' (H.out.below ((HB0.out _ _).mono hB)) (H'.out.below ((HB0.out _ _).mono hB')) (by simp; omega) (by simp; omega)).mono ?_); rintro e w2 ⟨rfl, hb2⟩; have HB2 := Lib.hid ((HB0.out _ _).trans (hb2.mono (by simp; omega))); clear hb2)
    go_ret
    exact ⟨by rw [← HE.out]; rfl, HB2.out⟩
  · have HE := Lib.hid (atr_ds hd)
    have hdb : (a.ds == a'.ds) = false := by simpa using hd
    go_enter Tryz.func43, Tryz.ntmps43
    go_wp2_with fail
    go_ret
    exact ⟨by rw [HE.out]; rfl, HB0.out _ _⟩

set_option maxHeartbeats 3200000 in
set_option maxRecDepth 100000 in
theorem equalFunc_p (l l' : List Atr) (KA KA' : Option Addr) (kc kc' : Nat) (w : World) (B B' : Nat) (h : EAt w 0 B l KA kc) (h' : EAt w 0 B' l' KA' kc') (hB : B ≤ w.heap.size) (hB' : B' ≤ w.heap.size) :
    Calls Tryz.prog 42 #[.slice KA l.length kc, .slice KA' l'.length kc', .func (.func 43) #[] #[]] w fun e w' => e = .returned (.bool (decide (l = l'))) ∧ Below w.heap.size w w' := by
  have H := Lib.hid h
  have H' := Lib.hid h'
  have hn := h.n1
  clear h h'
  by_cases hl : l.length = l'.length
  · have HL := Lib.hid hl
    rw [← hl]
    clear hl
    go_enter Tryz.func42, Tryz.ntmps42
    go_wp2_with fail
    go_loopw [17] (fun i wr => ∃ (j : Nat), j ≤ l.length ∧ i = .int .i64 j ∧ l.take j = l'.take j ∧ Below w.heap.size w wr) (fun i _ => l.length - (RowKit.intOf i).toNat)
    case atStart => exact ⟨0, Nat.zero_le _, rfl, rfl, Below.refl _ _⟩
    case round =>
      obtain ⟨j, hj, rfl, ht, hb⟩ := hrel
      have HT := Lib.hid ht
      have HB := Lib.hid hb
      have hbs := hb.size
      clear ht
      by_cases hlt : j < l.length
      · obtain ⟨ad, rfl, _, hadB, hel⟩ := H.out.at_ (by omega)
        obtain ⟨ad', rfl, _, hadB', hel'⟩ := H'.out.at_ (by have := HL.out; omega)
        have hk := List.getElem?_eq_getElem hlt
        generalize l[j] = q at hk
        have hk' := List.getElem?_eq_getElem (l := l') (i := j) (by have := HL.out; omega)
        generalize l'[j]'(by have := HL.out; omega) = q' at hk'
        obtain ⟨_, A, c, hv, e0, e1⟩ := hel j q hk
        obtain ⟨_, A', c', hv', e0', e1'⟩ := hel' j q' hk'
        obtain ⟨m0, m1⟩ := two_at (((hb.mono hB).cell (p := ad.add (j * 2)) (by rw [RankLaw.add_block]; exact hadB)).trans e0) (((hb.mono hB).cell (p := ad.add (j * 2 + 1)) (by rw [RankLaw.add_block]; exact hadB)).trans e1)
        have hn2 := fun o => two_at ((((hb.alloc hbs o).mono hB').cell (p := ad'.add (j * 2)) (by rw [RankLaw.add_block]; exact hadB')).trans e0') ((((hb.alloc hbs o).mono hB').cell (p := ad'.add (j * 2 + 1)) (by rw [RankLaw.add_block]; exact hadB')).trans e1')
        have n0 := fun o => (hn2 o).1
        have n1 := fun o => (hn2 o).2
        unfold txt at m0 n0
        have hbb : ∀ o o', Below w.heap.size w ((wr.alloc o).alloc o') := fun o o' => (hb.alloc hbs o).alloc (by simp; omega) o'
        have HBB := Lib.hid hbb
        have HV := Lib.hid (fun o o' => hv.below ((hbb o o').mono hB))
        have HV' := Lib.hid (fun o o' => hv'.below ((hbb o o').mono hB'))
        clear hv hv' e0 e1 e0' e1' hel hel' hb hbb hn2
        by_cases hq : q = q'
        · subst hq
          have HK := Lib.hid (take_step HT.out hk hk')
          clear hk hk'
          go_wp2_with (go_at_call 43; (with_reducible refine (same1_p q q A A' c c' _ B B' (HV.out _ _) (HV'.out _ _) (by simp; omega) (by simp; omega)).mono ?_); rintro e w2 ⟨rfl, hb2⟩; have HB2 := Lib.hid ((HBB.out _ _).trans (hb2.mono (by simp; omega))); rw [decide_eq_true rfl]; clear hb2)
          go_round
          case rel => exact ⟨j + 1, by omega, by go_num, HK.out, HB2.out⟩
          case measure => simp [RowKit.intOf]; omega
        · have HD := Lib.hid (differ hk hk' hq)
          have HQ := Lib.hid (decide_eq_false hq)
          clear hk hk' hq
          go_wp2_with (go_at_call 43; (with_reducible refine (same1_p q q' A A' c c' _ B B' (HV.out _ _) (HV'.out _ _) (by simp; omega) (by simp; omega)).mono ?_); rintro e w2 ⟨rfl, hb2⟩; have HB2 := Lib.hid ((HBB.out _ _).trans (hb2.mono (by simp; omega))); rw [HQ.out]; clear hb2)
          go_ret
          exact ⟨by rw [HD.out]; rfl, HB2.out⟩
      · have ej : j = l.length := by omega
        subst ej
        have HD := Lib.hid (take_all HL.out HT.out)
        clear hb
        go_wp2_with fail
        go_ret
        exact ⟨by rw [HD.out]; rfl, HB.out⟩
  · have HD := Lib.hid (differ_len hl)
    have hl2 : ¬ (l.length : Int) = (l'.length : Int) := by omega
    go_enter Tryz.func42, Tryz.ntmps42
    go_wp2_with fail
    go_ret
    exact ⟨by rw [HD.out]; rfl, Below.refl _ _⟩

set_option maxHeartbeats 1600000 in
set_option maxRecDepth 100000 in
theorem same_p (l l' : List Atr) (KA KA' : Option Addr) (kc kc' : Nat) (w : World) (B B' : Nat) (h : EAt w 0 B l KA kc) (h' : EAt w 0 B' l' KA' kc') (hB : B ≤ w.heap.size) (hB' : B' ≤ w.heap.size) :
    Calls Tryz.prog 19 #[ent KA l.length kc, ent KA' l'.length kc'] w fun e w' => e = .returned (.bool (decide (l = l'))) ∧ Below w.heap.size w w' := by
  have hb0 : ∀ o o', Below w.heap.size w ((w.alloc o).alloc o') := fun o o' => ((Below.refl _ w).alloc (Nat.le_refl _) o).alloc (by simp) o'
  have HB0 := Lib.hid hb0
  have H := Lib.hid h
  have H' := Lib.hid h'
  clear h h' hb0
  go_enter Tryz.func19, Tryz.ntmps19
  go_wp2_with (go_at_call 42; (with_reducible refine (equalFunc_p l l' KA KA' kc kc' _ B B' (H.out.below ((HB0.out _ _).mono hB)) (H'.out.below ((HB0.out _ _).mono hB')) (by simp; omega) (by simp; omega)).mono ?_); rintro e w2 ⟨rfl, hb2⟩; have HB2 := Lib.hid ((HB0.out _ _).trans (hb2.mono (by simp; omega))); clear hb2)
  go_ret
  exact ⟨rfl, HB2.out⟩
end Go.Proofs.YtiiadibbkijnhaaGreatDoor

namespace Go.Proofs.YtiiadibbkijnhaaGreatDoor
open Go.RowKit Go.FltLaw Go.EntLaw Go.Lib Go.RankLaw

/-- Two boxes with entries, where a call began. -/
structure Pair8 (w wr : World) (u u' : Value) : Prop where
  below : Below w.heap.size w wr
  b1 : wr.heap[w.heap.size]? = some (.cells #[u] 24 (0, 0))
  b2 : wr.heap[w.heap.size + 1]? = some (.cells #[u'] 24 (0, 0))
theorem Pair8.start (w : World) (u u' : Value) : Pair8 w ((w.alloc (.cells #[u] 24)).alloc (.cells #[u'] 24)) u u' :=
  ⟨((Below.refl _ _).alloc (Nat.le_refl _) _).alloc (by simp) _, heap_alloc2_old w _ _, heap_alloc2_new w _ _⟩
theorem Pair8.size {w wr : World} {u u' : Value} (h : Pair8 w wr u u') : w.heap.size + 2 ≤ wr.heap.size := by
  have := (Array.getElem?_eq_some_iff.1 h.b2).1
  omega
theorem Pair8.later {w wr w2 : World} {u u' : Value} (h : Pair8 w wr u u') (hb : Below (w.heap.size + 2) wr w2) : Pair8 w w2 u u' :=
  ⟨h.below.trans (hb.mono (by omega)), (hb.block _ (by omega)).trans h.b1, (hb.block _ (by omega)).trans h.b2⟩
theorem Pair8.cells {w wr : World} {u u' : Value} (h : Pair8 w wr u u') : wr.cell? ⟨w.heap.size, 0, none⟩ = some u ∧ wr.cell? ⟨w.heap.size + 1, 0, none⟩ = some u' := ⟨cell_of_one h.b1, cell_of_one h.b2⟩
theorem two_boxes {wr : World} (cs cs' : Array Value) (t : TypeId) : ((wr.alloc (.cells cs t)).alloc (.cells cs' t)).heap[wr.heap.size]? = some (.cells cs t (0, 0)) ∧ ((wr.alloc (.cells cs t)).alloc (.cells cs' t)).heap[wr.heap.size + 1]? = some (.cells cs' t (0, 0)) := ⟨heap_alloc2_old wr _ _, heap_alloc2_new wr _ _⟩

set_option maxHeartbeats 3200000 in
set_option maxRecDepth 100000 in
theorem rsame_p (l l' : List Atr) (KA KA' : Option Addr) (kc kc' : Nat) (w : World) (B B' : Nat) (h : EAt w 0 B l KA kc) (h' : EAt w 0 B' l' KA' kc') (hB : B ≤ w.heap.size) (hB' : B' ≤ w.heap.size) :
    Calls Tryz.prog 20 #[ent KA l.length kc, ent KA' l'.length kc'] w fun e w' => e = .returned (.bool (decide (l = l'))) ∧ Below w.heap.size w w' := by
  have H := Lib.hid h
  have H' := Lib.hid h'
  have hn := h.n1
  have HS := Lib.hid (fun u u' => Pair8.start w u u')
  clear h h'
  by_cases hl : l.length = l'.length
  · have HL := Lib.hid hl
    rw [← hl]
    clear hl
    go_enter Tryz.func20, Tryz.ntmps20
    go_wp2_with fail
    go_loopw [5] (fun i wr => ∃ (j : Nat), j ≤ l.length ∧ i = .int .i64 j ∧ l.take j = l'.take j ∧ Pair8 w wr (.slice KA l.length kc) (.slice KA' l.length kc')) (fun i _ => l.length - (RowKit.intOf i).toNat)
    case atStart => exact ⟨0, Nat.zero_le _, rfl, rfl, HS.out _ _⟩
    case round =>
      obtain ⟨j, hj, rfl, ht, hP⟩ := hrel
      obtain ⟨w1, rfl⟩ : ∃ w1, w1 = wr := ⟨wr, rfl⟩
      have HT := Lib.hid ht
      have HP := Lib.hid hP
      have hb := hP.below
      have hbs := hP.size
      obtain ⟨c1, c2⟩ := hP.cells
      clear ht hP
      by_cases hlt : j < l.length
      · obtain ⟨ad, rfl, _, hadB, hel⟩ := H.out.at_ (by omega)
        obtain ⟨ad', rfl, _, hadB', hel'⟩ := H'.out.at_ (by have := HL.out; omega)
        have hk := List.getElem?_eq_getElem hlt
        generalize l[j] = q at hk
        have hk' := List.getElem?_eq_getElem (l := l') (i := j) (by have := HL.out; omega)
        generalize l'[j]'(by have := HL.out; omega) = q' at hk'
        obtain ⟨_, A, c, hv, e0, e1⟩ := hel j q hk
        obtain ⟨_, A', c', hv', e0', e1'⟩ := hel' j q' hk'
        obtain ⟨m0, m1⟩ := two_at (((hb.mono hB).cell (p := ad.add (j * 2)) (by rw [RankLaw.add_block]; exact hadB)).trans e0) (((hb.mono hB).cell (p := ad.add (j * 2 + 1)) (by rw [RankLaw.add_block]; exact hadB)).trans e1)
        have hn2 := fun o => two_at ((((hb.alloc (by omega) o).mono hB').cell (p := ad'.add (j * 2)) (by rw [RankLaw.add_block]; exact hadB')).trans e0') ((((hb.alloc (by omega) o).mono hB').cell (p := ad'.add (j * 2 + 1)) (by rw [RankLaw.add_block]; exact hadB')).trans e1')
        have n0 := fun o => (hn2 o).1
        have n1 := fun o => (hn2 o).2
        unfold txt at m0 n0
        have hbb : ∀ o o', Below w.heap.size w ((w1.alloc o).alloc o') := fun o o' => (hb.alloc (by omega) o).alloc (by simp; omega) o'
        have HBB := Lib.hid hbb
        have HV := Lib.hid (fun o o' => hv.below ((hbb o o').mono hB))
        have HV' := Lib.hid (fun o o' => hv'.below ((hbb o o').mono hB'))
        have hwl := fun o o' => ((Below.refl w1.heap.size w1).alloc (Nat.le_refl _) o).alloc (by simp) o'
        have HWL := Lib.hid hwl
        have c2' := fun o => (((Below.refl w1.heap.size w1).alloc (Nat.le_refl _) o).cell (p := ⟨w.heap.size + 1, 0, none⟩) (by show w.heap.size + 1 < w1.heap.size; omega)).trans c2
        have HTB := Lib.hid (fun cs cs' => two_boxes (wr := w1) cs cs' 48)
        clear hv e0 e1 e0' e1' hel hel' hb hbb hn2 hwl
        have hvn := hv'.n1
        clear hv'
        by_cases hd : q.ds = q'.ds
        · by_cases hvl : q.vs.length = q'.vs.length
          · have HVL := Lib.hid hvl
            have hqn : q.vs.length ≤ 8796093021952 := by omega
            have HDE := Lib.hid hd
            have HK := Lib.hid hk
            have HK' := Lib.hid hk'
            have hdb : (q.ds == q'.ds) = true := by simpa using hd
            clear hk hk'
            rw [← hvl] at n1
            rw [← hd] at n0
            clear hvl hd
            go_wp2_with fail
            go_loopw [8] (fun i w2 => ∃ (k : Nat), k ≤ q.vs.length ∧ i = .int .i64 k ∧ q.vs.take k = q'.vs.take k ∧ Below (w1.heap.size + 2) ((w1.alloc (.cells #[.string ⟨q.ds.toArray⟩, .slice A q.vs.length c] 48)).alloc (.cells #[.string ⟨q.ds.toArray⟩, .slice A' q.vs.length c'] 48)) w2) (fun i _ => q.vs.length - (RowKit.intOf i).toNat)
            case atStart => exact ⟨0, Nat.zero_le _, rfl, rfl, Below.refl _ _⟩
            case round =>
              clear c1 c2 m0 m1 n0 n1 c2'
              obtain ⟨k, hkn, rfl, hst, hb2⟩ := hrel
              have HST := Lib.hid hst
              have HB2 := Lib.hid hb2
              obtain ⟨t1, t2⟩ := HTB.out #[.string ⟨q.ds.toArray⟩, .slice A q.vs.length c] #[.string ⟨q.ds.toArray⟩, .slice A' q.vs.length c']
              have t1' := (hb2.block _ (by omega)).trans t1
              have t2' := (hb2.block _ (by omega)).trans t2
              have p1 : wr.cell? ⟨w1.heap.size, 1, none⟩ = some (.slice A q.vs.length c) := by simp [World.cell?, t1']
              have p2 : wr.cell? ⟨w1.heap.size + 1, 1, none⟩ = some (.slice A' q.vs.length c') := by simp [World.cell?, t2']
              clear hst t1 t2 t1' t2'
              by_cases hklt : k < q.vs.length
              · obtain ⟨av, rfl, _, havB, hev⟩ := (HV.out (.cells #[.string ⟨q.ds.toArray⟩, .slice A q.vs.length c] 48) (.cells #[.string ⟨q.ds.toArray⟩, .slice A' q.vs.length c'] 48)).at_ (by omega)
                obtain ⟨av', rfl, _, havB', hev'⟩ := (HV'.out (.cells #[.string ⟨q.ds.toArray⟩, .slice (some av) q.vs.length c] 48) (.cells #[.string ⟨q.ds.toArray⟩, .slice A' q.vs.length c'] 48)).at_ (by have := HVL.out; omega)
                have hkv := List.getElem?_eq_getElem hklt
                generalize q.vs[k] = x at hkv
                have hkv' := List.getElem?_eq_getElem (l := q'.vs) (i := k) (by have := HVL.out; omega)
                generalize q'.vs[k]'(by have := HVL.out; omega) = x' at hkv'
                have v1 := (hb2.cell (p := av.add k) (by rw [RankLaw.add_block]; omega)).trans (hev k x hkv)
                have v2 := (hb2.cell (p := av'.add k) (by rw [RankLaw.add_block]; omega)).trans (hev' k x' hkv')
                unfold txt at v1 v2
                have hj2 : (k : Int) < (q.vs.length : Int) := by omega
                have hj3 : decide ((q.vs.length : Int) ≤ (k : Int)) = false := by simp; omega
                have hj4 : decide (q.vs.length ≤ k) = false := by simp; omega
                by_cases hx : x = x'
                · subst hx
                  have HKX := Lib.hid (take_step HST.out hkv hkv')
                  clear hev hev' hkv hkv' hb2
                  go_wp2_with fail
                  go_quiet (fail)
                  go_wp2_with fail
                  go_round
                  case rel => exact ⟨k + 1, by omega, by go_num, HKX.out, below_d8 HB2.out _⟩
                  case measure => simp [RowKit.intOf]; omega
                · have hqq : q ≠ q' := fun e => by
                    rw [← e, hkv] at hkv'
                    exact hx (Option.some.inj hkv')
                  have HD := Lib.hid (differ HK.out HK'.out hqq)
                  have hne : (x == x') = false := by simpa using hx
                  clear hev hev' hkv hkv' hb2 hx hqq
                  go_wp2_with fail
                  go_quiet (fail)
                  go_wp2_with fail
                  go_ret
                  exact ⟨by rw [HD.out]; rfl, below_d8 ((HBB.out _ _).trans (HB2.out.mono (by omega))) _⟩
              · have ek : k = q.vs.length := by omega
                subst ek
                have hqq : q = q' := by
                  obtain ⟨d, v⟩ := q
                  obtain ⟨d', v'⟩ := q'
                  have h1 := HDE.out
                  have h2 := take_all HVL.out HST.out
                  simp only at h1 h2
                  simp at h2
                  rw [h1, h2]
                have HKK := Lib.hid (take_step HT.out HK.out (hqq ▸ HK'.out))
                clear hb2 hqq
                go_wp2_with fail
                go_round
                case rel => exact ⟨j + 1, by omega, by go_num, HKK.out, HP.out.later (((HWL.out _ _).mono hbs).trans (HB2.out.mono (by omega)))⟩
                case measure => simp [RowKit.intOf]; omega
          · have hqq : q ≠ q' := fun e => hvl (by rw [e])
            have HD := Lib.hid (differ hk hk' hqq)
            have hdb : (q.ds == q'.ds) = true := by simpa using hd
            have hvl2 : ¬ (q.vs.length : Int) = (q'.vs.length : Int) := by omega
            clear hk hk' hqq
            go_wp2_with fail
            go_ret
            exact ⟨by rw [HD.out]; rfl, HBB.out _ _⟩
        · have hqq : q ≠ q' := fun e => hd (by rw [e])
          have HD := Lib.hid (differ hk hk' hqq)
          have hdb : (q.ds == q'.ds) = false := by simpa using hd
          clear hk hk' hqq
          go_wp2_with fail
          go_ret
          exact ⟨by rw [HD.out]; rfl, HBB.out _ _⟩
      · have ej : j = l.length := by omega
        subst ej
        have HD := Lib.hid (take_all HL.out HT.out)
        clear hb
        go_wp2_with fail
        go_ret
        exact ⟨by rw [HD.out]; rfl, HP.out.below⟩
  · have HD := Lib.hid (differ_len hl)
    have hl2 : ¬ (l.length : Int) = (l'.length : Int) := by omega
    go_enter Tryz.func20, Tryz.ntmps20
    go_wp2_with fail
    go_ret
    exact ⟨by rw [HD.out]; rfl, (HS.out _ _).below⟩
end Go.Proofs.YtiiadibbkijnhaaGreatDoor
