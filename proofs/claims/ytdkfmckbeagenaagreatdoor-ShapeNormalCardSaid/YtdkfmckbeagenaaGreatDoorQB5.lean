/-
  filter.right of whatever part.
 filter.Check: the walk over a filter's parts.
-/
import Derived.Test.YtdkfmckbeagenaaGreatDoorFltW4
import Derived.Test.YtdkfmckbeagenaaGreatDoorFltW5
import Derived.Test.YtdkfmckbeagenaaGreatDoorQA2
import Derived.OneCell
namespace Go.Proofs.YtdkfmckbeagenaaGreatDoor
open Go.RowKit Go.FltLaw Go.Lib

theorem right_p (k : Int) (KA : Option Addr) (kn kc : Nat) (ds vl st : List UInt8) (MA : Option Addr) (ms : List (List UInt8)) (mn mc : Nat) (fn rl : List UInt8) (dn : Bool) (w : World) (hmn : ms.length = mn) (hm : TxtsAt w w.heap.size MA ms)
  (hv : MaxVar w) (hM : 1 < w.heap.size) (hk0 : -128 ≤ k) (hk1 : k ≤ 127) (f0 : kn * 144 ≤ 140737488351232) (f1 : ds.length < 4294967281) (f5 : rl.length < 4294967281) (f6 : mn * 16 ≤ 140737488351232) :
  Calls Tryz.prog 35 #[.agg #[.int .i8 k, .slice KA kn kc, .string ⟨ds.toArray⟩, .string ⟨vl.toArray⟩, .string ⟨st.toArray⟩, .slice MA mn mc, .string ⟨fn.toArray⟩, .string ⟨rl.toArray⟩, .bool dn]] w
   fun e w' => e = .returned (.bool (FltLaw.right k kn ds vl st ms fn rl dn)) ∧ Below w.heap.size w w' := by
 by_cases h : k = 4
 ·subst h
  exact right_part KA kn kc ds vl st MA ms mn mc fn rl dn w hmn hm hv hM f0 f1 f5 f6
 ·exact right_other k (by simpa using h) KA kn kc ds vl st MA ms mn mc fn rl dn w hmn hm hv hM hk0 hk1 f0 f1 f5 f6
end Go.Proofs.YtdkfmckbeagenaaGreatDoor

namespace Go.Proofs.YtdkfmckbeagenaaGreatDoor
open Go.RowKit Go.FltLaw Go.Lib

structure Walking (w : World) (B nb db wb n d : Nat) : Prop where
 hn : w.heap[nb]? = some (.cells #[.int .i64 n] 3 (0, 0))
 hd : w.heap[db]? = some (.cells #[.int .i64 d] 3 (0, 0))
 hw : w.heap[wb]? = some (.cells #[.func (.func 33) #[] #[.pointer (some ⟨db, 0, none⟩), .pointer (some ⟨nb, 0, none⟩), .pointer (some ⟨wb, 0, none⟩)]] 56 (0, 0))
 o1 : B ≤ nb
 o2 : nb < db
 o3 : db < wb
theorem Walking.cells {w : World} {B nb db wb n d : Nat} (h : Walking w B nb db wb n d) :
  w.cell? ⟨nb, 0, none⟩ = some (.int .i64 n) ∧ w.frozen? ⟨nb, 0, none⟩ = false ∧ w.cell? ⟨db, 0, none⟩ = some (.int .i64 d) ∧ w.frozen? ⟨db, 0, none⟩ = false ∧
   w.cell? ⟨wb, 0, none⟩ = some (.func (.func 33) #[] #[.pointer (some ⟨db, 0, none⟩), .pointer (some ⟨nb, 0, none⟩), .pointer (some ⟨wb, 0, none⟩)]) :=
 ⟨cell_of_one h.hn, free_of_one h.hn, cell_of_one h.hd, free_of_one h.hd, cell_of_one h.hw⟩
theorem Walking.lt {w : World} {B nb db wb n d : Nat} (h : Walking w B nb db wb n d) : wb < w.heap.size := (Array.getElem?_eq_some_iff.1 h.hw).1
theorem Walking.alloc {w : World} {B nb db wb n d : Nat} (h : Walking w B nb db wb n d) (o : Obj) : Walking (w.alloc o) B nb db wb n d := by
 have hl := h.lt
 have o2 := h.o2
 have o3 := h.o3
 refine ⟨?_, ?_, ?_, h.o1, h.o2, h.o3⟩
 ·rw [Below.heap_alloc _ _ _ (by omega)]; exact h.hn
 ·rw [Below.heap_alloc _ _ _ (by omega)]; exact h.hd
 ·rw [Below.heap_alloc _ _ _ (by omega)]; exact h.hw
theorem Walking.depth {w : World} {B nb db wb n d : Nat} (h : Walking w B nb db wb n d) (d' : Nat) : Walking (w.setCell ⟨db, 0, none⟩ (.int .i64 d')) B nb db wb n d' := by
 have o2 := h.o2
 have o3 := h.o3
 refine ⟨?_, one_setCell h.hd, ?_, h.o1, h.o2, h.o3⟩
 ·rw [Below.heap_setCell _ _ _ _ (by simp; omega)]; exact h.hn
 ·rw [Below.heap_setCell _ _ _ _ (by simp; omega)]; exact h.hw
theorem Walking.nodes {w : World} {B nb db wb n d : Nat} (h : Walking w B nb db wb n d) (n' : Nat) : Walking (w.setCell ⟨nb, 0, none⟩ (.int .i64 n')) B nb db wb n' d := by
 have o2 := h.o2
 have o3 := h.o3
 refine ⟨one_setCell h.hn, ?_, ?_, h.o1, h.o2, h.o3⟩
 ·rw [Below.heap_setCell _ _ _ _ (by simp; omega)]; exact h.hd
 ·rw [Below.heap_setCell _ _ _ _ (by simp; omega)]; exact h.hw
structure AtPart (w w' : World) (B nb db wb n d p : Nat) (box : Array Value) : Prop where
 wk : Walking w' B nb db wb n d
 below : Below B w w'
 bx : w'.heap[p]? = some (.cells box 26 (0, 0))
 o4 : wb < p
theorem AtPart.lt {w w' : World} {B nb db wb n d p : Nat} {box : Array Value} (h : AtPart w w' B nb db wb n d p box) : p < w'.heap.size := (Array.getElem?_eq_some_iff.1 h.bx).1
theorem AtPart.cell {w w' : World} {B nb db wb n d p : Nat} {box : Array Value} (h : AtPart w w' B nb db wb n d p box) (j : Nat) : w'.cell? ⟨p, j, none⟩ = box[j]? := by simp [World.cell?, h.bx]
theorem AtPart.start {w : World} {B nb db wb n d : Nat} (h : Walking w B nb db wb n d) (box : Array Value) : AtPart w (w.alloc (.cells box 26)) B nb db wb n d w.heap.size box :=
 ⟨h.alloc _, (Below.refl _ _).alloc (by have := h.lt; have := h.o1; have := h.o2; have := h.o3; omega) _, by show (w.heap.push _)[w.heap.size]? = _; simp, h.lt⟩
theorem AtPart.depth {w w' : World} {B nb db wb n d p : Nat} {box : Array Value} (h : AtPart w w' B nb db wb n d p box) (d' : Nat) : AtPart w (w'.setCell ⟨db, 0, none⟩ (.int .i64 d')) B nb db wb n d' p box :=
 ⟨h.wk.depth d', h.below.setCell (p := ⟨db, 0, none⟩) (by have := h.wk.o1; have := h.wk.o2; simp; omega) _, by rw [Below.heap_setCell _ _ _ _ (by have := h.wk.o3; have := h.o4; simp; omega)]; exact h.bx, h.o4⟩
theorem AtPart.nodes {w w' : World} {B nb db wb n d p : Nat} {box : Array Value} (h : AtPart w w' B nb db wb n d p box) (n' : Nat) : AtPart w (w'.setCell ⟨nb, 0, none⟩ (.int .i64 n')) B nb db wb n' d p box :=
 ⟨h.wk.nodes n', h.below.setCell (p := ⟨nb, 0, none⟩) h.wk.o1 _, by rw [Below.heap_setCell _ _ _ _ (by have := h.wk.o2; have := h.wk.o3; have := h.o4; simp; omega)]; exact h.bx, h.o4⟩
theorem AtPart.later {w w' w2 : World} {B nb db wb n d p : Nat} {box : Array Value} (h : AtPart w w' B nb db wb n d p box) (hb : Below w'.heap.size w' w2) : AtPart w w2 B nb db wb n d p box := by
 have hl := h.lt
 have o1 := h.wk.o1
 have o2 := h.wk.o2
 have o3 := h.wk.o3
 have o4 := h.o4
 exact ⟨⟨(hb.block nb (by omega)).trans h.wk.hn, (hb.block db (by omega)).trans h.wk.hd, (hb.block wb (by omega)).trans h.wk.hw, o1, o2, o3⟩, h.below.trans (hb.mono (by omega)), (hb.block p hl).trans h.bx, o4⟩
theorem AtPart.nine {w w' : World} {B nb db wb n d p : Nat} {b0 b1 b2 b3 b4 b5 b6 b7 b8 : Value} (h : AtPart w w' B nb db wb n d p #[b0, b1, b2, b3, b4, b5, b6, b7, b8]) :
  w'.cell? ⟨p, 0, none⟩ = some b0 ∧ w'.cell? ⟨p, 1, none⟩ = some b1 ∧ w'.cell? ⟨p, 2, none⟩ = some b2 ∧ w'.cell? ⟨p, 3, none⟩ = some b3 ∧ w'.cell? ⟨p, 4, none⟩ = some b4 ∧ w'.cell? ⟨p, 5, none⟩ = some b5 ∧ w'.cell? ⟨p, 6, none⟩ = some b6 ∧ w'.cell? ⟨p, 7, none⟩ = some b7 ∧ w'.cell? ⟨p, 8, none⟩ = some b8 :=
 ⟨h.cell 0, h.cell 1, h.cell 2, h.cell 3, h.cell 4, h.cell 5, h.cell 6, h.cell 7, h.cell 8⟩
theorem TxtsAt.more {w : World} {B B' : Nat} {MA : Option Addr} {ms : List (List UInt8)} (h : TxtsAt w B MA ms) (hB : B ≤ B') : TxtsAt w B' MA ms := fun h0 =>
 let ⟨ad, h1, h2, h3⟩ := h h0
 ⟨ad, h1, Nat.lt_of_lt_of_le h2 hB, h3⟩
theorem walk_deep {k : Int} {ks : List Flt} {ds vl st : List UInt8} {ms : List (List UInt8)} {fn rl : List UInt8} {dn : Bool} {a n d : Nat} (h : 64 ≤ a) : walk (.mk k ks ds vl st ms fn rl dn) a n d = (91, n, d) := by
 rw [walk_eq, if_pos h]
theorem walk_long {k : Int} {ks : List Flt} {ds vl st : List UInt8} {ms : List (List UInt8)} {fn rl : List UInt8} {dn : Bool} {a n d n' : Nat} (h : ¬ 64 ≤ a) (hn : n' = if k = 2 then n else n + 1) (hl : 65536 < n' ∨ FltLaw.long ds vl st ms fn rl = true) :
  walk (.mk k ks ds vl st ms fn rl dn) a n d = (3, n', max d (a + 1)) := by
 subst hn
 rw [walk_eq, if_neg h, if_pos hl]
theorem walk_bad {k : Int} {ks : List Flt} {ds vl st : List UInt8} {ms : List (List UInt8)} {fn rl : List UInt8} {dn : Bool} {a n d n' : Nat} (h : ¬ 64 ≤ a) (hn : n' = if k = 2 then n else n + 1) (h1 : ¬ 65536 < n') (hl : FltLaw.long ds vl st ms fn rl = false) (hr : FltLaw.right k ks.length ds vl st ms fn rl dn = false) :
  walk (.mk k ks ds vl st ms fn rl dn) a n d = (90, n', max d (a + 1)) := by
 subst hn
 rw [walk_eq, if_neg h, if_neg (by simp [h1, hl]), hr]; simp
theorem walk_kids {k : Int} {ks : List Flt} {ds vl st : List UInt8} {ms : List (List UInt8)} {fn rl : List UInt8} {dn : Bool} {a n d n' : Nat} (h : ¬ 64 ≤ a) (hn : n' = if k = 2 then n else n + 1) (h1 : ¬ 65536 < n') (hl : FltLaw.long ds vl st ms fn rl = false) (hr : FltLaw.right k ks.length ds vl st ms fn rl dn = true) :
  walk (.mk k ks ds vl st ms fn rl dn) a n d = walk.walks ks (a + 1) n' (max d (a + 1)) := by
 subst hn
 rw [walk_eq, if_neg h, if_neg (by simp [h1, hl]), if_pos hr]
def Walked (f : Flt) (a n d : Nat) (B nb db wb : Nat) (w : World) (e : Ending) (w' : World) : Prop :=
 e = .returned (.int .i64 (walk f a n d).1) ∧ Walking w' B nb db wb (walk f a n d).2.1 (walk f a n d).2.2 ∧ Below B w w'
theorem walked_of {f : Flt} {a n d B nb db wb p : Nat} {w w' : World} {box : Array Value} {c : Int} {n' d' : Nat} (h : walk f a n d = (c, n', d')) (hat : AtPart w w' B nb db wb n' d' p box) : Walked f a n d B nb db wb w (.returned (.int .i64 c)) w' := by
 unfold Walked
 rw [h]
 exact ⟨rfl, hat.wk, hat.below⟩
theorem walked_by {f : Flt} {a n d B nb db wb : Nat} {w w' : World} {c : Int} {n' d' : Nat} (h : walk f a n d = (c, n', d')) (hat : Walking w' B nb db wb n' d') (hb : Below B w w') : Walked f a n d B nb db wb w (.returned (.int .i64 c)) w' := by
 unfold Walked
 rw [h]
 exact ⟨rfl, hat, hb⟩
theorem walk_met {sp : Bool} {lo fuel : Nat} {f : Flt} {v : Value} {a n d : Nat} {w : World} {B nb db wb : Nat} {c : Int} {n' d' : Nat}
  (ih : ∀ (f : Flt) (v : Value) (a n d : Nat) (w : World) (B nb db wb : Nat), FAt sp w lo B fuel f v → Walking w B nb db wb n d → a ≤ 64 → n ≤ 65536 → d ≤ 64 → MaxVar w → 1 < B →
   Calls Tryz.prog 33 #[v, .int .i64 a, .pointer (some ⟨db, 0, none⟩), .pointer (some ⟨nb, 0, none⟩), .pointer (some ⟨wb, 0, none⟩)] w (Walked f a n d B nb db wb w))
  (h1 : FAt sp w lo B fuel f v) (h2 : Walking w B nb db wb n d) (h3 : a + 1 ≤ 64) (h4 : n ≤ 65536) (h5 : d ≤ 64) (h6 : MaxVar w) (h7 : 1 < B) (hq : walk f (a + 1) n d = (c, n', d')) :
  Calls Tryz.prog 33 #[v, .int .i64 ((a : Int) + 1), .pointer (some ⟨db, 0, none⟩), .pointer (some ⟨nb, 0, none⟩), .pointer (some ⟨wb, 0, none⟩)] w fun e w' => e = .returned (.int .i64 c) ∧ Walking w' B nb db wb n' d' ∧ Below B w w' := by
 have h := ih f v (a + 1) n d w B nb db wb h1 h2 h3 h4 h5 h6 h7
 refine h.mono fun e w' hw => ?_
 unfold Walked at hw
 rw [hq] at hw
 exact hw
theorem long_x (k : Int) (KA : Option Addr) (kn kc : Nat) (ds vl st : List UInt8) (MA : Option Addr) (ms : List (List UInt8)) (mn mc : Nat) (fn rl : List UInt8) (dn : Bool) (w : World) (hmn : ms.length = mn) (hm : TxtsAt w w.heap.size MA ms) (hf : Fits k kn kc ds vl st ms mc fn rl) :
  Calls Tryz.prog 34 #[.agg #[.int .i8 k, .slice KA kn kc, .string ⟨ds.toArray⟩, .string ⟨vl.toArray⟩, .string ⟨st.toArray⟩, .slice MA mn mc, .string ⟨fn.toArray⟩, .string ⟨rl.toArray⟩, .bool dn]] w
   fun e w' => ∃ x, Hid (FltLaw.long ds vl st ms fn rl = x) ∧ e = .returned (.bool x) ∧ Below w.heap.size w w' :=
 (long_p k KA kn kc ds vl st MA ms mn mc fn rl dn w hmn hm hf.ds1 hf.vl1 hf.st1 hf.fn1 hf.rl1 (by have := hf.mn1; omega) hf.ms1).mono fun _ _ ⟨h1, h2⟩ => ⟨_, rfl, h1, h2⟩
theorem long_bounds {ds vl st : List UInt8} {ms : List (List UInt8)} {fn rl : List UInt8} (h : FltLaw.long ds vl st ms fn rl = false) : ds.length ≤ 65536 ∧ vl.length ≤ 65536 ∧ st.length ≤ 65536 ∧ fn.length ≤ 65536 ∧ rl.length ≤ 65536 := by
 simp only [FltLaw.long, Bool.or_eq_false_iff, decide_eq_false_iff_not] at h
 omega
theorem right_x (k : Int) (KA : Option Addr) (kn kc : Nat) (ds vl st : List UInt8) (MA : Option Addr) (ms : List (List UInt8)) (mn mc : Nat) (fn rl : List UInt8) (dn : Bool) (w : World) (hmn : ms.length = mn) (hm : TxtsAt w w.heap.size MA ms) (hf : Fits k kn kc ds vl st ms mc fn rl) (hl : FltLaw.long ds vl st ms fn rl = false) (hv : MaxVar w) (hM : 1 < w.heap.size) :
  Calls Tryz.prog 35 #[.agg #[.int .i8 k, .slice KA kn kc, .string ⟨ds.toArray⟩, .string ⟨vl.toArray⟩, .string ⟨st.toArray⟩, .slice MA mn mc, .string ⟨fn.toArray⟩, .string ⟨rl.toArray⟩, .bool dn]] w
   fun e w' => ∃ x, Hid (FltLaw.right k kn ds vl st ms fn rl dn = x) ∧ e = .returned (.bool x) ∧ Below w.heap.size w w' :=
 (right_p k KA kn kc ds vl st MA ms mn mc fn rl dn w hmn hm hv hM hf.k0 hf.k1 hf.kn1 (by have := long_bounds hl; omega) (by have := long_bounds hl; omega) (by have := hf.mn1; omega)).mono fun _ _ ⟨h1, h2⟩ => ⟨_, rfl, h1, h2⟩
set_option maxHeartbeats 3200000 in
set_option maxRecDepth 100000 in
theorem walk_p (sp : Bool) (lo : Nat) : ∀ (fuel : Nat) (f : Flt) (v : Value) (a n d : Nat) (w : World) (B nb db wb : Nat), FAt sp w lo B fuel f v → Walking w B nb db wb n d → a ≤ 64 → n ≤ 65536 → d ≤ 64 → MaxVar w → 1 < B →
  Calls Tryz.prog 33 #[v, .int .i64 a, .pointer (some ⟨db, 0, none⟩), .pointer (some ⟨nb, 0, none⟩), .pointer (some ⟨wb, 0, none⟩)] w (Walked f a n d B nb db wb w) := by
 intro fuel
 induction fuel with
 | zero => intro f v a n d w B nb db wb h; exact h.elim
 | succ fuel ih =>
  intro f v a n d w B nb db wb hF hW ha hn hd hv hM
  obtain ⟨k, ks, ds, vl, st, ms, fn, rl, dn⟩ := f
  obtain ⟨KA, kc, MA, mc, rfl, hfit, hmA, hkA, _⟩ := hF
  have IH := Lib.hid ih
  have HF := Lib.hid hfit
  have HM := Lib.hid hmA
  have HK := Lib.hid hkA
  have hfk0 := hfit.k0
  have hfk1 := hfit.k1
  generalize hbox : (#[.int .i8 k, .slice KA ks.length kc, .string ⟨ds.toArray⟩, .string ⟨vl.toArray⟩, .string ⟨st.toArray⟩, .slice MA ms.length mc, .string ⟨fn.toArray⟩, .string ⟨rl.toArray⟩, .bool dn] : Array Value) = box
  have hat0 := AtPart.start hW box
  rw [← hbox] at hat0
  have HA0 := Lib.hid hat0
  have hwo : ∀ o, (w.alloc o).cell? ⟨db, 0, none⟩ = some (.int .i64 d) ∧ (w.alloc o).frozen? ⟨db, 0, none⟩ = false := fun o => ⟨(hW.alloc o).cells.2.2.1, (hW.alloc o).cells.2.2.2.1⟩
  have c1 := fun o => (hwo o).1
  have c2 := fun o => (hwo o).2
  have hT : TxtsAt w B MA ms := fun h0 => let ⟨ad, g1, _, g2, g3⟩ := hmA h0; ⟨ad, g1, g2, g3⟩
  have HT := Lib.hid hT
  have hBw : B ≤ w.heap.size := by have := hW.lt; have := hW.o1; have := hW.o2; have := hW.o3; omega
  have HB := Lib.hid hBw
  clear ih hfit hmA hkA hW hat0 hwo hbox box hT hBw
  unfold flt
  by_cases h1 : 64 ≤ a
  ·have h1' : (64 : Int) ≤ a := by omega
   go_enter Tryz.func33, Tryz.ntmps33
   go_wp2_with fail
   go_ret
   exact walked_of (walk_deep h1) HA0.out
  ·have h1' : (a : Int) < 64 := by omega
   go_enter Tryz.func33, Tryz.ntmps33
   go_upto_region 3 with fail
   go_cut [13] (fun _ w' => AtPart w w' B nb db wb n (max d (a + 1)) w.heap.size #[.int .i8 k, .slice KA ks.length kc, .string ⟨ds.toArray⟩, .string ⟨vl.toArray⟩, .string ⟨st.toArray⟩, .slice MA ms.length mc, .string ⟨fn.toArray⟩, .string ⟨rl.toArray⟩, .bool dn])
   case first =>
    go_wp2_with fail
    go_meet
    case rel =>
     have e : ((max d (a + 1) : Nat) : Int) = max (d : Int) (a + 1) := by omega
     rw [← e]
     exact HA0.out.depth _
   case rest =>
    obtain ⟨n', hn'⟩ : ∃ n', n' = if k = 2 then n else n + 1 := ⟨_, rfl⟩
    have hn1 : n' ≤ 65537 := by split at hn' <;> omega
    have HN' := Lib.hid hn'
    have HC := Lib.hid hcut
    have k0 : wc.cell? ⟨w.heap.size, 0, none⟩ = some (.int .i8 k) := hcut.cell 0
    have e1 := hcut.wk.cells.1
    have e2 := hcut.wk.cells.2.1
    clear hcut hn' c1 c2
    go_upto_if 19 with fail
    go_cut [20] (fun _ w' => AtPart w w' B nb db wb n' (max d (a + 1)) w.heap.size #[.int .i8 k, .slice KA ks.length kc, .string ⟨ds.toArray⟩, .string ⟨vl.toArray⟩, .string ⟨st.toArray⟩, .slice MA ms.length mc, .string ⟨fn.toArray⟩, .string ⟨rl.toArray⟩, .bool dn])
    case first =>
     by_cases hk : k = 2
     ·subst hk
      go_wp2_with fail
      go_meet
      case rel =>
       have e : n' = n := HN'.out
       rw [e]
       exact HC.out
     ·have hk' : (k != 2) = true := by simpa using hk
      go_wp2_with fail
      go_meet
      case rel =>
       have e : n' = n + 1 := by rw [HN'.out, if_neg hk]
       rw [e]
       exact HC.out.nodes (n + 1)
    case rest =>
     have HC := Lib.hid hcut
     have e1 := hcut.wk.cells.1
     obtain ⟨k0, k1, k2, k3, k4, k5, k6, k7, k8⟩ := hcut.nine
     clear hcut
     by_cases hbig : 65536 < n'
     ·have hbig' : (65536 : Int) < n' := by omega
      go_wp2_with fail
      go_ret
      exact walked_of (walk_long h1 HN'.out (.inl hbig)) HC.out
     ·have hbig' : (n' : Int) ≤ 65536 := by omega
      have hB := HC.out.below.size
      have hBw : B ≤ w.heap.size := by have := HB.out; omega
      go_wp2_with (first
       | (go_at_call 34; (with_reducible refine (long_x k KA ks.length kc ds vl st MA ms ms.length mc fn rl dn wc rfl ((HT.out.below HC.out.below).more (by omega)) HF.out).mono ?_); rintro e w2 ⟨x, HX, rfl, hb2⟩; have hat2 := HC.out.later hb2; obtain ⟨j0, j1, j2, j3, j4, j5, j6, j7, j8⟩ := hat2.nine; have HC2 := Lib.hid hat2; have hB2 := hat2.below.size; clear hat2 hb2)
       | (go_at_call 35; (with_reducible refine (right_x k KA ks.length kc ds vl st MA ms ms.length mc fn rl dn w2 rfl ((HT.out.below HC2.out.below).more (by omega)) HF.out (HX.out.trans (show (n' : Int) ≤ 65536 ∧ x = false by assumption).2) (hv.below HC2.out.below hM) (by omega)).mono ?_); rintro e w3 ⟨y, HY, rfl, hb3⟩; have hat3 := HC2.out.later hb3; obtain ⟨i0, i1, i2, i3, i4, i5, i6, i7, i8⟩ := hat3.nine; have HC3 := Lib.hid hat3; have hB3 := hat3.below.size; clear hat3 hb3))
      ·have g : 65536 < (n' : Int) ∨ x = true := by assumption
       have hx : x = true := g.resolve_left (by omega)
       go_ret
       exact walked_of (walk_long h1 HN'.out (.inr (HX.out.trans hx))) HC2.out
      ·have g : (n' : Int) ≤ 65536 ∧ x = false := by assumption
       have gy : (!y) = true := by assumption
       go_ret
       exact walked_of (walk_bad h1 HN'.out hbig (HX.out.trans g.2) (HY.out.trans (by simpa using gy))) HC3.out
      ·have g : (n' : Int) ≤ 65536 ∧ x = false := by assumption
       have gy : (!y) = false := by assumption
       have hw : walk (.mk k ks ds vl st ms fn rl dn) a n d = walk.walks ks (a + 1) n' (max d (a + 1)) := walk_kids h1 HN'.out hbig (HX.out.trans g.2) (HY.out.trans (by simpa using gy))
       have HW := Lib.hid hw
       obtain rfl : y = true := by simpa using gy
       have HKN := HF.out.kn1
       have HKC := HF.out.kc0
       clear hw j0 j1 j2 j3 j4 j5 j6 j7 j8 i0 i1 i2 i3 i4 i5 i6 i7 i8 HC2 hB2 g gy
       go_loopw [34] (fun i wr => ∃ (j n2 d2 : Nat), j ≤ ks.length ∧ i = .int .i64 j ∧ n2 ≤ 65536 ∧ d2 ≤ 64 ∧ walk.walks (ks.drop j) (a + 1) n2 d2 = walk.walks ks (a + 1) n' (max d (a + 1)) ∧ Walking wr B nb db wb n2 d2 ∧ Below B w wr) (fun i _ => ks.length - (RowKit.intOf i).toNat)
       case atStart => exact ⟨0, n', max d (a + 1), by omega, rfl, by omega, by omega, rfl, HC3.out.wk, HC3.out.below⟩
       case round =>
        obtain ⟨j, n2, d2, hj, rfl, hn2, hd2, hwk, hat, hbw⟩ := hrel
        have HWK := Lib.hid hwk
        have HAT := Lib.hid hat
        have HBW := Lib.hid hbw
        have hwr := hat.lt
        have hwb := hat.o1
        have hwc := hat.o2
        have hwd := hat.o3
        have g4 := hat.cells.2.2.2.2
        by_cases hlt : j < ks.length
        ·obtain ⟨ad, rfl, _, hadB, hel⟩ := HK.out (by omega)
         have hke := List.getElem?_eq_getElem hlt
         generalize ks[j] = q at hke
         obtain ⟨fv, hfv, hcells⟩ := hel j _ hke
         have hfv2 := hfv.below hbw
         obtain ⟨k2, A2, m2, c2', s2, s3, s4, A5, m5, c5, s6, s7, x8, rfl⟩ := (FAt.formF hfv)
         have hwo : ∀ o, FAt sp (wr.alloc o) lo B fuel q _ ∧ Walking (wr.alloc o) B nb db wb n2 d2 ∧ MaxVar (wr.alloc o) ∧ (wr.alloc o).cell? ⟨wb, 0, none⟩ = some (.func (.func 33) #[] #[.pointer (some ⟨db, 0, none⟩), .pointer (some ⟨nb, 0, none⟩), .pointer (some ⟨wb, 0, none⟩)]) := fun o =>
          ⟨hfv2.below ((Below.refl B wr).alloc (by omega) o), hat.alloc o, (hv.below hbw hM).below ((Below.refl B wr).alloc (by omega) o) hM, (hat.alloc o).cells.2.2.2.2⟩
         have HWO := Lib.hid hwo
         have g5 := fun o => (hwo o).2.2.2
         have HKE := Lib.hid hke
         obtain ⟨c3, n3, d3, hq⟩ : ∃ c3 n3 d3, walk q (a + 1) n2 d2 = (c3, n3, d3) := ⟨_, _, _, rfl⟩
         have HQ := Lib.hid hq
         obtain ⟨l0, l1, l2, l3, l4, l5, l6, l7, l8⟩ := nine_at (w := wr) (m := j * 9) (fun q u hu => (hbw.cell (p := ad.add (j * 9 + q)) (by rw [RankLaw.add_block]; exact hadB)).trans (hcells q u hu))
         clear hel hfv hcells hfv2 hke hwo hq hwk hat hbw
         go_wp2_with (first
          | (go_at_call 33; (with_reducible refine (walk_met IH.out (HWO.out _).1 (HWO.out _).2.1 (by omega) hn2 hd2 (HWO.out _).2.2.1 hM HQ.out).mono ?_); rintro e w4 ⟨rfl, hw4, hb4⟩; have HW4 := Lib.hid hw4; have HB4 := Lib.hid (HBW.out.trans (((Below.refl B wr).alloc (by omega) _).trans hb4)); clear hw4 hb4))
         ·have g : (c3 != 0) = true := by assumption
          go_ret
          have e := HWK.out
          rw [walks_drop HKE.out, HQ.out, if_neg (by simpa using g)] at e
          exact walked_by (HW.out.trans e.symm) HW4.out HB4.out
         ·have g : (c3 != 0) = false := by assumption
          have g0 : c3 = 0 := by simpa using g
          have e := HWK.out
          rw [walks_drop HKE.out, HQ.out, if_pos g0] at e
          have m1 := (walk_more q (a + 1) n2 d2 (by rw [HQ.out]; exact g0)).2
          have m2 := walk_d64 q (a + 1) n2 d2 hd2
          rw [HQ.out] at m1 m2
          simp only [Bool.not_true]
          go_round
          case rel => exact ⟨j + 1, n3, d3, by omega, by go_num, m1, m2, e, HW4.out, HB4.out⟩
          case measure => simp [RowKit.intOf]; omega
        ·clear hwk hat hbw
         go_wp2_with fail
         go_ret
         have e : ks.drop j = [] := List.drop_eq_nil_of_le (by omega)
         have h2 := HWK.out
         rw [e, walk.walks] at h2
         exact walked_by (HW.out.trans h2.symm) HAT.out HBW.out
end Go.Proofs.YtdkfmckbeagenaaGreatDoor
