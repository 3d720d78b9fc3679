/-
  rosterlaw16.left: what is left of a number once a filter is counted: some number.
 rosterlaw16.ShapeNil, walked (but for its closed call).
-/
import Derived.Test.YtdkfmckbeagenaaGreatDoorQA2
import Derived.Test.YtdkfmckbeagenaaGreatDoorProg
import Derived.WalkKit
import Derived.Outline
import Derived.Lib.Hide
import Derived.OneCell
import Derived.Laws.Rows
import Derived.Laws.ResultCell
namespace Go.Proofs.YtdkfmckbeagenaaGreatDoor
open Go.RowKit Go.FltLaw Go.Lib Go.RankLaw

structure Boxed16 (w wr : World) (box : Array Value) : Prop where
 below : Below w.heap.size w wr
 bx : wr.heap[w.heap.size]? = some (.cells box 26 (0, 0))
theorem Boxed16.start (w : World) (box : Array Value) : Boxed16 w (w.alloc (.cells box 26)) box := ⟨(Below.refl _ _).alloc (Nat.le_refl _) _, heap_alloc_new _ _⟩
theorem Boxed16.size {w wr : World} {box : Array Value} (h : Boxed16 w wr box) : w.heap.size + 1 ≤ wr.heap.size := (Array.getElem?_eq_some_iff.1 h.bx).1
theorem Boxed16.later {w wr w2 : World} {box : Array Value} (h : Boxed16 w wr box) (hb : Below wr.heap.size wr w2) : Boxed16 w w2 box := by
 have := h.size
 exact ⟨h.below.trans (hb.mono (by omega)), by rw [hb.block _ (by omega)]; exact h.bx⟩
theorem Boxed16.lists {w wr : World} {b0 b1 b2 b3 b4 b5 b6 b7 b8 : Value} (h : Boxed16 w wr #[b0, b1, b2, b3, b4, b5, b6, b7, b8]) : wr.cell? ⟨w.heap.size, 1, none⟩ = some b1 ∧ wr.cell? ⟨w.heap.size, 5, none⟩ = some b5 := by
 simp [World.cell?, h.bx]
def Less16 (n : Int) (w : World) (e : Ending) (w' : World) : Prop := ∃ m : Int, -1125899906842624 ≤ m ∧ m ≤ n ∧ e = .returned (.int .i64 m) ∧ Below w.heap.size w w'
set_option maxHeartbeats 3200000 in
set_option maxRecDepth 100000 in
theorem left16 : ∀ (fuel : Nat) (f : Flt) (v : Value) (n : Int) (w : World) (B : Nat), FAt false w 0 B fuel f v → B ≤ w.heap.size → 0 ≤ n → n ≤ 4611686018427387904 →
  Calls Tryz.prog 19 #[v, .int .i64 n] w (Less16 n w) := by
 intro fuel
 induction fuel with
 | zero => intro f v n w B h; exact h.elim
 | succ fuel ih =>
  intro f v n w B hF hB hn0 hn1
  obtain ⟨k, ks, ds, vl, st, ms, fn, rl, dn⟩ := f
  obtain ⟨KA, kc, MA, mc, rfl, hfit, hmA, hkA, _⟩ := hF
  have IH := Lib.hid ih
  have HM := Lib.hid hmA
  have HK := Lib.hid hkA
  have f0 := hfit.kn1
  have f1 := hfit.ds1
  have f2 := hfit.vl1
  have f3 := hfit.st1
  have f4 := hfit.fn1
  have f5 := hfit.rl1
  have f6 := hfit.mn1
  have F7 := Lib.hid hfit.ms1
  have g0 := hfit.kc0
  have g1 := hfit.mc0
  have hbox := fun o => Boxed16.start w o
  have HBX := Lib.hid hbox
  clear ih hfit hmA hkA hbox
  unfold flt
  go_enter Tryz.func19, Tryz.ntmps19
  go_wp2_with fail
  go_loop [1, 5] (fun m i => ∃ (j : Nat) (q : Int), j ≤ ms.length ∧ i = .int .i64 j ∧ m = .int .i64 q ∧ -1125899906842624 ≤ q ∧ q ≤ n) (fun _ i => ms.length - (RowKit.intOf i).toNat)
  case atStart => exact ⟨0, _, Nat.zero_le _, rfl, rfl, by omega, by omega⟩
  case round =>
   obtain ⟨j, q, hj, rfl, rfl, hq0, hq1⟩ := hrel
   by_cases hlt : j < ms.length
   ·by_cases hq : 0 ≤ q
    ·obtain ⟨ad, rfl, _, hb, hcell⟩ := HM.out (by omega)
     have hc : ∀ o, (w.alloc o).cell? (ad.add j) = some (.string ⟨ms[j].toArray⟩) := fun o => (World.cell?_alloc_lt w o (ad.add j) (by rw [RankLaw.add_block]; omega)).trans (hcell j _ (List.getElem?_eq_getElem hlt))
     have hl := F7.out _ (List.getElem_mem hlt)
     clear hcell
     go_wp2_with fail
     go_round
     case rel => exact ⟨j + 1, _, by omega, by go_num, rfl, by omega, by omega⟩
     case measure => simp [RowKit.intOf]; omega
    ·have hq' : q < 0 := by omega
     go_wp2_with fail
     go_loopw [1, 6] (fun m i wr => ∃ (j : Nat) (q : Int), j ≤ ks.length ∧ i = .int .i64 j ∧ m = .int .i64 q ∧ -1125899906842624 ≤ q ∧ q ≤ n ∧ Boxed16 w wr #[.int .i8 k, .slice KA ks.length kc, .string ⟨ds.toArray⟩, .string ⟨vl.toArray⟩, .string ⟨st.toArray⟩, .slice MA ms.length mc, .string ⟨fn.toArray⟩, .string ⟨rl.toArray⟩, .bool dn]) (fun _ i _ => ks.length - (RowKit.intOf i).toNat)
     case atStart => exact ⟨0, q, Nat.zero_le _, rfl, rfl, hq0, hq1, HBX.out _⟩
     case round =>
      obtain ⟨i, p, hi, rfl, rfl, hp0, hp1, hbx⟩ := hrel
      have HB2 := Lib.hid hbx
      obtain ⟨c1, c5⟩ := hbx.lists
      have hsz := hbx.size
      have hbw := hbx.below
      clear hbx
      by_cases hlt2 : i < ks.length
      ·by_cases hp : 0 ≤ p
       ·obtain ⟨ad, rfl, _, hadB, hel⟩ := HK.out (by omega)
        have hke := List.getElem?_eq_getElem hlt2
        generalize ks[i] = z at hke
        obtain ⟨fv, hfv, hcells⟩ := hel i _ hke
        have HFV := Lib.hid (hfv.below (hbw.mono hB))
        obtain ⟨d0, d1, d2, d3, d4, d5, d6, d7, d8, rfl⟩ := (FAt.form hfv)
        obtain ⟨l0, l1, l2, l3, l4, l5, l6, l7, l8⟩ := nine_at (m := i * 9) (fun q u hu => ((hbw.mono hB).cell (p := ad.add (i * 9 + q)) (by rw [RankLaw.add_block]; exact hadB)).trans (hcells q u hu))
        clear hel hfv hcells hke hbw
        go_wp2_with (go_at_call 19; (with_reducible refine (IH.out z _ p _ B HFV.out (by omega) hp (by omega)).mono ?_); rintro e w4 ⟨r, hr0, hr1, rfl, hb4⟩; have HB4 := Lib.hid (HB2.out.later hb4); clear hb4)
        go_round
        case rel => exact ⟨i + 1, r, by omega, by go_num, rfl, hr0, by omega, HB4.out⟩
        case measure => simp [RowKit.intOf]; omega
       ·have hp' : p < 0 := by omega
        clear hbw
        go_wp2_with fail
        go_ret
        exact ⟨p, hp0, hp1, rfl, HB2.out.below⟩
      ·clear hbw
       go_wp2_with fail
       go_ret
       exact ⟨p, hp0, hp1, rfl, HB2.out.below⟩
   ·go_wp2_with fail
    go_loopw [1, 6] (fun m i wr => ∃ (j : Nat) (q : Int), j ≤ ks.length ∧ i = .int .i64 j ∧ m = .int .i64 q ∧ -1125899906842624 ≤ q ∧ q ≤ n ∧ Boxed16 w wr #[.int .i8 k, .slice KA ks.length kc, .string ⟨ds.toArray⟩, .string ⟨vl.toArray⟩, .string ⟨st.toArray⟩, .slice MA ms.length mc, .string ⟨fn.toArray⟩, .string ⟨rl.toArray⟩, .bool dn]) (fun _ i _ => ks.length - (RowKit.intOf i).toNat)
    case atStart => exact ⟨0, q, Nat.zero_le _, rfl, rfl, hq0, hq1, HBX.out _⟩
    case round =>
     obtain ⟨i, p, hi, rfl, rfl, hp0, hp1, hbx⟩ := hrel
     have HB2 := Lib.hid hbx
     obtain ⟨c1, c5⟩ := hbx.lists
     have hsz := hbx.size
     have hbw := hbx.below
     clear hbx
     by_cases hlt2 : i < ks.length
     ·by_cases hp : 0 ≤ p
      ·obtain ⟨ad, rfl, _, hadB, hel⟩ := HK.out (by omega)
       have hke := List.getElem?_eq_getElem hlt2
       generalize ks[i] = z at hke
       obtain ⟨fv, hfv, hcells⟩ := hel i _ hke
       have HFV := Lib.hid (hfv.below (hbw.mono hB))
       obtain ⟨d0, d1, d2, d3, d4, d5, d6, d7, d8, rfl⟩ := (FAt.form hfv)
       obtain ⟨l0, l1, l2, l3, l4, l5, l6, l7, l8⟩ := nine_at (m := i * 9) (fun q u hu => ((hbw.mono hB).cell (p := ad.add (i * 9 + q)) (by rw [RankLaw.add_block]; exact hadB)).trans (hcells q u hu))
       clear hel hfv hcells hke hbw
       go_wp2_with (go_at_call 19; (with_reducible refine (IH.out z _ p _ B HFV.out (by omega) hp (by omega)).mono ?_); rintro e w4 ⟨r, hr0, hr1, rfl, hb4⟩; have HB4 := Lib.hid (HB2.out.later hb4); clear hb4)
       go_round
       case rel => exact ⟨i + 1, r, by omega, by go_num, rfl, hr0, by omega, HB4.out⟩
       case measure => simp [RowKit.intOf]; omega
      ·have hp' : p < 0 := by omega
       clear hbw
       go_wp2_with fail
       go_ret
       exact ⟨p, hp0, hp1, rfl, HB2.out.below⟩
     ·clear hbw
      go_wp2_with fail
      go_ret
      exact ⟨p, hp0, hp1, rfl, HB2.out.below⟩
end Go.Proofs.YtdkfmckbeagenaaGreatDoor

namespace Go.Proofs.YtdkfmckbeagenaaGreatDoor
open Go.RowKit Go.FltLaw Go.Lib Go.RankLaw

theorem heavy16 (fuel : Nat) (f : Flt) (v : Value) (w : World) (B : Nat) (hF : FAt false w 0 B fuel f v) (hB : B ≤ w.heap.size) :
  Calls Tryz.prog 6 #[v] w fun e w' => ∃ x, e = .returned (.bool x) ∧ Below w.heap.size w w' := by
 have hFw : ∀ o, FAt false (w.alloc o) 0 B fuel f v := fun o => hF.below ((Below.refl B w).alloc hB o)
 have HF := Lib.hid hFw
 have hb := fun o => (Below.refl w.heap.size w).alloc (Nat.le_refl _) o
 have HB := Lib.hid hb
 obtain ⟨k2, A2, m2, c2', s2, s3, s4, A5, m5, q5, s6, s7, x8, rfl⟩ := (FAt.formF hF)
 clear hF hFw hb
 go_enter Tryz.func6, Tryz.ntmps6
 go_wp2_with (go_at_call 19; (with_reducible refine (left16 fuel f _ 16777216 _ B (HF.out _) (by simp; omega) (by omega) (by omega)).mono ?_); rintro e w4 ⟨r, hr0, hr1, rfl, hb4⟩; have HB4 := Lib.hid ((HB.out _).trans (hb4.mono (by simp))); clear hb4)
 all_goals
  go_ret
  exact ⟨_, rfl, HB4.out⟩
abbrev Wakes16 (W : World) : Prop := ∀ w : World, Below W.heap.size W w → Calls Tryz.prog 15 #[] w fun e w' => e = .returned (.bool true) ∧ Below w.heap.size w w'
end Go.Proofs.YtdkfmckbeagenaaGreatDoor
