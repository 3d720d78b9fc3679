/-
  rosterlaw17.counts: a part and its kids are counted: some answer.
-/
import Derived.Test.YtjclahnbohdcpaaGreatDoorFltLent
import Derived.Test.YtjclahnbohdcpaaGreatDoorProg
import Derived.WalkKit
import Derived.Outline
import Derived.Lib.Hide
import Derived.OneCell
import Derived.Laws.Rows
import Derived.RegionTactic
import Derived.Deep.Cut
import Derived.Deep.DeepCutAuto
namespace Go.Proofs.YtjclahnbohdcpaaGreatDoor
open Go.RowKit Go.FltLaw Go.Lib Go.RankLaw

theorem grown_set17 (w : World) (cb i : Nat) (u : Value) : w.grownBy (w.setCell ⟨cb, i, none⟩ u) (some cb) :=
  ⟨rfl, rfl, rfl, by simp [World.setCell], fun k _ hk => Below.heap_setCell _ _ _ _ (by simpa using hk)⟩
/-- The number lies in block nb, the part boxed in block p. -/
structure Num17 (w wr : World) (nb p : Nat) (m : Int) (box : Array Value) : Prop where
  grown : w.grownBy wr (some nb)
  hn : wr.heap[nb]? = some (.cells #[.int .i64 m] 3 (0, 0))
  bx : wr.heap[p]? = some (.cells box 26 (0, 0))
  o1 : nb < p
theorem Num17.start {w : World} {nb : Nat} {m : Int} (h : w.heap[nb]? = some (.cells #[.int .i64 m] 3 (0, 0))) (box : Array Value) : Num17 w (w.alloc (.cells box 26)) nb w.heap.size m box := by
  have hl := (Array.getElem?_eq_some_iff.1 h).1
  exact ⟨World.grownBy_alloc _ _ _, by rw [Below.heap_alloc _ _ _ hl]; exact h, heap_alloc_new _ _, hl⟩
theorem Num17.set {w wr : World} {nb p : Nat} {m : Int} {box : Array Value} (h : Num17 w wr nb p m box) (q : Int) : Num17 w (wr.setCell ⟨nb, 0, none⟩ (.int .i64 q)) nb p q box := by
  have o1 := h.o1
  exact ⟨h.grown.trans (grown_set17 _ _ _ _), one_setCell h.hn, by rw [Below.heap_setCell _ _ _ _ (by simp; omega)]; exact h.bx, o1⟩
theorem Num17.drew {w wr : World} {nb p : Nat} {m : Int} {box : Array Value} (h : Num17 w wr nb p m box) : Num17 w wr.drew nb p m box := ⟨⟨h.grown.os, h.grown.tape, h.grown.output, h.grown.size, h.grown.block⟩, h.hn, h.bx, h.o1⟩
theorem Num17.first {w : World} {nb : Nat} {m : Int} (h : w.heap[nb]? = some (.cells #[.int .i64 m] 3 (0, 0))) (q : Int) (box : Array Value) : Num17 w (((w.setCell ⟨nb, 0, none⟩ (.int .i64 q)).alloc (.cells box 26)).drew) nb w.heap.size q box := by
  have h1 := Num17.start (one_setCell (u := .int .i64 q) h) box
  have e : (w.setCell ⟨nb, 0, none⟩ (.int .i64 q)).heap.size = w.heap.size := by simp [World.setCell]
  rw [e] at h1
  exact Num17.drew ⟨(grown_set17 _ _ _ _).trans h1.grown, h1.hn, h1.bx, h1.o1⟩
theorem Num17.cells {w wr : World} {nb p : Nat} {m : Int} {b0 b1 b2 b3 b4 b5 b6 b7 b8 : Value} (h : Num17 w wr nb p m #[b0, b1, b2, b3, b4, b5, b6, b7, b8]) :
    wr.cell? ⟨nb, 0, none⟩ = some (.int .i64 m) ∧ wr.frozen? ⟨nb, 0, none⟩ = false ∧ wr.cell? ⟨p, 1, none⟩ = some b1 ∧ wr.cell? ⟨p, 2, none⟩ = some b2 ∧ wr.cell? ⟨p, 3, none⟩ = some b3 ∧ wr.cell? ⟨p, 4, none⟩ = some b4 ∧ wr.cell? ⟨p, 5, none⟩ = some b5 ∧ wr.cell? ⟨p, 6, none⟩ = some b6 ∧ wr.cell? ⟨p, 7, none⟩ = some b7 := by
  simp [World.cell?, World.frozen?, h.hn, h.bx]
theorem Num17.below {w wr : World} {nb p : Nat} {m : Int} {box : Array Value} (h : Num17 w wr nb p m box) {B : Nat} (hB : B ≤ nb) (hs : B ≤ w.heap.size) : Below B w wr := (Below.refl B w).grown h.grown hs fun k e => by injection e with e; omega

/-- Some answer; where it is false the number is small. -/
def Some17 (nb : Nat) (w : World) (e : Ending) (w' : World) : Prop := ∃ (x : Bool) (m' : Int), e = .returned (.bool x) ∧ w.grownBy w' (some nb) ∧ w'.heap[nb]? = some (.cells #[.int .i64 m'] 3 (0, 0)) ∧ (x = false → 0 ≤ m' ∧ m' ≤ 134217728)
theorem Num17.yes {w wr : World} {nb p : Nat} {m : Int} {box : Array Value} (h : Num17 w wr nb p m box) : Some17 nb w (.returned (.bool true)) wr := ⟨true, m, rfl, h.grown, h.hn, fun h => by cases h⟩
theorem Num17.no {w wr : World} {nb p : Nat} {m : Int} {box : Array Value} (h : Num17 w wr nb p m box) (h0 : 0 ≤ m) (h1 : m ≤ 134217728) : Some17 nb w (.returned (.bool false)) wr := ⟨false, m, rfl, h.grown, h.hn, fun _ => ⟨h0, h1⟩⟩

theorem Num17.then {w wr w4 : World} {nb p : Nat} {m q : Int} {box : Array Value} (h : Num17 w wr nb p m box) (hg : wr.grownBy w4 (some nb)) (hn : w4.heap[nb]? = some (.cells #[.int .i64 q] 3 (0, 0))) : Num17 w w4 nb p q box := by
  have hl := (Array.getElem?_eq_some_iff.1 h.bx).1
  have o1 := h.o1
  exact ⟨h.grown.trans hg, hn, by rw [hg.block p hl (by simp; omega)]; exact h.bx, o1⟩
theorem counts_call {fuel : Nat} {f : Flt} {v : Value} {m : Int} {a : Nat} {w : World} {B nb : Nat}
    (ih : ∀ (f : Flt) (v : Value) (m : Int) (a : Nat) (w : World) (B nb : Nat), FAt false w 0 B fuel f v → B ≤ nb → w.heap[nb]? = some (.cells #[.int .i64 m] 3 (0, 0)) → 0 ≤ m → m ≤ 134217728 → a ≤ 65537 →
      Calls Tryz.prog 18 #[v, .pointer (some ⟨nb, 0, none⟩), .int .i64 a] w (Some17 nb w))
    (h1 : FAt false w 0 B fuel f v) (h2 : B ≤ nb) (h3 : w.heap[nb]? = some (.cells #[.int .i64 m] 3 (0, 0))) (h4 : 0 ≤ m) (h5 : m ≤ 134217728) (h6 : a + 1 ≤ 65537) :
    Calls Tryz.prog 18 #[v, .pointer (some ⟨nb, 0, none⟩), .int .i64 ((a : Int) + 1)] w fun e w' => ∃ (x : Bool) (m' : Int), e = .returned (.bool x) ∧ w.grownBy w' (some nb) ∧ w'.heap[nb]? = some (.cells #[.int .i64 m'] 3 (0, 0)) ∧ (x = false → 0 ≤ m' ∧ m' ≤ 134217728) :=
  ih f v m (a + 1) w B nb h1 h2 h3 h4 h5 h6

set_option maxHeartbeats 3200000 in
set_option maxRecDepth 100000 in
theorem counts17 : ∀ (fuel : Nat) (f : Flt) (v : Value) (m : Int) (a : Nat) (w : World) (B nb : Nat), FAt false w 0 B fuel f v → B ≤ nb → w.heap[nb]? = some (.cells #[.int .i64 m] 3 (0, 0)) → 0 ≤ m → m ≤ 134217728 → a ≤ 65537 →
    Calls Tryz.prog 18 #[v, .pointer (some ⟨nb, 0, none⟩), .int .i64 a] w (Some17 nb w) := by
  intro fuel
  induction fuel with
  | zero => intro f v m a w B nb h; exact h.elim
  | succ fuel ih =>
    intro f v m a w B nb hF hB hn hm0 hm1 ha
    obtain ⟨k, ks, ds, vl, st, ms, fn, rl, dn⟩ := f
    obtain ⟨KA, kc, MA, mc, rfl, hfit, hmA, hkA, _⟩ := hF
    have IH := Lib.hid ih
    have HM := Lib.hid hmA
    have HK := Lib.hid hkA
    have f0 := hfit.kn1
    have f1 := hfit.ds1
    have f2 := hfit.vl1
    have f3 := hfit.st1
    have f4 := hfit.fn1
    have f5 := hfit.rl1
    have f6 := hfit.mn1
    have F7 := Lib.hid hfit.ms1
    have g0 := hfit.kc0
    have g1 := hfit.mc0
    have hnl := (Array.getElem?_eq_some_iff.1 hn).1
    have hst := fun o => Num17.start hn o
    have HST := Lib.hid hst
    have c1 : ∀ o, (w.alloc o).cell? ⟨nb, 0, none⟩ = some (.int .i64 m) ∧ (w.alloc o).frozen? ⟨nb, 0, none⟩ = false := fun o => by
      have h := (Below.heap_alloc w o nb hnl).trans hn
      exact ⟨cell_of_one h, free_of_one h⟩
    have c2 := fun o => (c1 o).1
    have c3 := fun o => (c1 o).2
    clear ih hfit hmA hkA hst c1
    unfold flt
    go_enter Tryz.func18, Tryz.ntmps18
    go_upto_region 1 with fail
    go_cut [9] (fun _ w' => ∃ q : Int, 0 ≤ q ∧ q ≤ 1125899906842624 ∧ Num17 w w' nb w.heap.size q #[.int .i8 k, .slice KA ks.length kc, .string ⟨ds.toArray⟩, .string ⟨vl.toArray⟩, .string ⟨st.toArray⟩, .slice MA ms.length mc, .string ⟨fn.toArray⟩, .string ⟨rl.toArray⟩, .bool dn])
    case first =>
      go_region
      all_goals
        go_wp2_with fail
        go_meet
        case rel => exact ⟨_, by omega, by omega, Num17.first hn _ _⟩
    case rest =>
      obtain ⟨q0, hq0, hq1, hN⟩ := hcut
      have HN := Lib.hid hN
      obtain ⟨d0, d1, d2, d3, d4, d5, d6, d7, d8⟩ := hN.cells
      clear hN c2 c3
      go_wp2_with fail
      go_loopw [37] (fun i wr => ∃ (j : Nat) (q : Int), j ≤ ms.length ∧ i = .int .i64 j ∧ 0 ≤ q ∧ q ≤ 1125899906842624 ∧ Num17 w wr nb w.heap.size q #[.int .i8 k, .slice KA ks.length kc, .string ⟨ds.toArray⟩, .string ⟨vl.toArray⟩, .string ⟨st.toArray⟩, .slice MA ms.length mc, .string ⟨fn.toArray⟩, .string ⟨rl.toArray⟩, .bool dn]) (fun i _ => ms.length - (RowKit.intOf i).toNat)
      case atStart => exact ⟨0, q0, Nat.zero_le _, rfl, hq0, hq1, HN.out⟩
      case round =>
        clear d0 d1 d2 d3 d4 d5 d6 d7 d8 HN
        obtain ⟨j, q, hj, rfl, hr0, hr1, hN⟩ := hrel
        have HN := Lib.hid hN
        obtain ⟨d0, d1, d2, d3, d4, d5, d6, d7, d8⟩ := hN.cells
        have hbw := hN.below hB (by omega)
        clear hN
        by_cases hlt : j < ms.length
        · obtain ⟨ad, rfl, _, hb, hcell⟩ := HM.out (by omega)
          have hc := (hbw.cell (p := ad.add j) (by rw [RankLaw.add_block]; exact hb)).trans (hcell j _ (List.getElem?_eq_getElem hlt))
          have hl := F7.out _ (List.getElem_mem hlt)
          unfold txt at hc
          generalize ms[j] = z at hc hl
          have hj2 : (j : Int) < (ms.length : Int) := by omega
          clear hcell hbw
          go_upto_region 5 with fail
          go_cut [40] (fun _ w' => ∃ p : Int, 0 ≤ p ∧ p ≤ 2251799813685248 ∧ Num17 w w' nb w.heap.size p #[.int .i8 k, .slice KA ks.length kc, .string ⟨ds.toArray⟩, .string ⟨vl.toArray⟩, .string ⟨st.toArray⟩, .slice (some ad) ms.length mc, .string ⟨fn.toArray⟩, .string ⟨rl.toArray⟩, .bool dn])
          case first =>
            go_region
            all_goals
              go_wp2_with fail
              go_meet
              case rel => exact ⟨_, by omega, by omega, (HN.out.set _).drew⟩
          case rest =>
            obtain ⟨p, hp0, hp1, hN2⟩ := hcut
            clear d0 d1 d2 d3 d4 d5 d6 d7 d8
            have HN2 := Lib.hid hN2
            obtain ⟨d0, d1, d2, d3, d4, d5, d6, d7, d8⟩ := hN2.cells
            clear hN2
            by_cases hbig : 134217728 < p
            · go_wp2_with fail
              go_ret
              exact HN2.out.yes
            · have hbig' : p ≤ 134217728 := by omega
              go_wp2_with fail
              go_round
              case rel => exact ⟨j + 1, p, by omega, by go_num, hp0, by omega, HN2.out⟩
              case measure => simp [RowKit.intOf]; omega
        · clear hbw
          by_cases hbig : 134217728 < q
          · go_wp2_with fail
            go_ret
            exact HN.out.yes
          · have hbig' : q ≤ 134217728 := by omega
            by_cases habove : 65536 < a
            · have ha2 : (65536 : Int) < (a : Int) := by omega
              go_wp2_with fail
              go_ret
              exact HN.out.yes
            · have ha2 : (a : Int) ≤ 65536 := by omega
              go_wp2_with fail
              go_loopw [68] (fun i wr => ∃ (j : Nat) (q : Int), j ≤ ks.length ∧ i = .int .i64 j ∧ 0 ≤ q ∧ q ≤ 134217728 ∧ Num17 w wr nb w.heap.size q #[.int .i8 k, .slice KA ks.length kc, .string ⟨ds.toArray⟩, .string ⟨vl.toArray⟩, .string ⟨st.toArray⟩, .slice MA ms.length mc, .string ⟨fn.toArray⟩, .string ⟨rl.toArray⟩, .bool dn]) (fun i _ => ks.length - (RowKit.intOf i).toNat)
              case atStart => exact ⟨0, q, Nat.zero_le _, rfl, hr0, hbig', HN.out⟩
              case round =>
                clear d0 d1 d2 d3 d4 d5 d6 d7 d8 HN
                obtain ⟨i, p, hi, rfl, hp0, hp1, hN⟩ := hrel
                have HN := Lib.hid hN
                obtain ⟨d0, d1, d2, d3, d4, d5, d6, d7, d8⟩ := hN.cells
                have hbw := hN.below hB (by omega)
                clear hN
                by_cases hlt2 : i < ks.length
                · obtain ⟨ad, rfl, _, hadB, hel⟩ := HK.out (by omega)
                  have hke := List.getElem?_eq_getElem hlt2
                  generalize ks[i] = z at hke
                  obtain ⟨fv, hfv, hcells⟩ := hel i _ hke
                  have HFV := Lib.hid (hfv.below hbw)
                  obtain ⟨x0, x1, x2, x3, x4, x5, x6, x7, x8, rfl⟩ := (FAt.form hfv)
                  obtain ⟨l0, l1, l2, l3, l4, l5, l6, l7, l8⟩ := nine_at (m := i * 9) (fun q u hu => (hbw.cell (p := ad.add (i * 9 + q)) (by rw [RankLaw.add_block]; exact hadB)).trans (hcells q u hu))
                  clear hel hfv hcells hke hbw
                  go_wp2_with (go_at_call 18; (with_reducible refine (counts_call IH.out HFV.out hB HN.out.hn hp0 hp1 (by omega)).mono ?_); rintro e w4 ⟨x, m4, rfl, hg4, hn4, hx4⟩; have HN4 := Lib.hid (HN.out.then hg4 hn4); have HX4 := Lib.hid hx4; clear hg4 hn4 hx4)
                  · go_ret
                    exact HN4.out.yes
                  · have hx : x = false := by first | assumption | (have h : ¬ x = true := (by assumption); simpa using h)
                    go_round
                    case rel => exact ⟨i + 1, m4, by omega, by go_num, (HX4.out hx).1, (HX4.out hx).2, HN4.out⟩
                    case measure => simp [RowKit.intOf]; omega
                · clear hbw
                  go_wp2_with fail
                  go_ret
                  exact HN.out.no hp0 hp1
end Go.Proofs.YtjclahnbohdcpaaGreatDoor
