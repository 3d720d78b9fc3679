/-
  rosterref09.(*Count).walk: the document's walk over a filter's parts.
 rosterref09.Check, rosterref09.May: what they compute.
 filter.Check, filter.may: what they compute.
-/
import Derived.Test.YtdkfmckbeagenaaGreatDoorQC4
import Derived.Test.YtdkfmckbeagenaaGreatDoorQB5
import Derived.Deep.QuietTactic
import Derived.BigQuiet
import Derived.Laws.EntriesVeiled
import Derived.RegionTactic
namespace Go.Proofs.YtdkfmckbeagenaaGreatDoor
open Go.RowKit Go.FltLaw Go.Lib

theorem grown_set (w : World) (cb i : Nat) (u : Value) : w.grownBy (w.setCell ⟨cb, i, none⟩ u) (some cb) :=
 ⟨rfl, rfl, rfl, by simp [World.setCell], fun k _ hk => Below.heap_setCell _ _ _ _ (by simpa using hk)⟩
theorem grown_below {w w' : World} (h : Below w.heap.size w w') (row : Option Nat) : w.grownBy w' row := ⟨h.os, h.tape, h.output, h.size, fun k hk _ => h.block k hk⟩
structure CountAt (w w' : World) (B cb n d : Nat) (c : Int) : Prop where
 grown : w.grownBy w' (some cb)
 hc : w'.heap[cb]? = some (.cells #[.int .i64 n, .int .i64 d, .int .i64 c] 59 (0, 0))
 o1 : B ≤ cb
 o0 : B ≤ w.heap.size
theorem CountAt.below {w w' : World} {B cb n d : Nat} {c : Int} (h : CountAt w w' B cb n d c) : Below B w w' := (Below.refl B w).grown h.grown h.o0 fun k e => by injection e with e; rw [← e]; exact h.o1
theorem CountAt.lt {w w' : World} {B cb n d : Nat} {c : Int} (h : CountAt w w' B cb n d c) : cb < w'.heap.size := (Array.getElem?_eq_some_iff.1 h.hc).1
theorem CountAt.three {w w' : World} {B cb n d : Nat} {c : Int} (h : CountAt w w' B cb n d c) :
  w'.cell? ⟨cb, 0, none⟩ = some (.int .i64 n) ∧ w'.cell? ⟨cb, 1, none⟩ = some (.int .i64 d) ∧ w'.cell? ⟨cb, 2, none⟩ = some (.int .i64 c) ∧ w'.frozen? ⟨cb, 0, none⟩ = false ∧ w'.frozen? ⟨cb, 1, none⟩ = false ∧ w'.frozen? ⟨cb, 2, none⟩ = false := by
 simp [World.cell?, World.frozen?, h.hc]
theorem CountAt.alloc {w w' : World} {B cb n d : Nat} {c : Int} (h : CountAt w w' B cb n d c) (o : Obj) : CountAt w (w'.alloc o) B cb n d c :=
 ⟨h.grown.trans (World.grownBy_alloc _ _ _), by rw [Below.heap_alloc _ _ _ h.lt]; exact h.hc, h.o1, h.o0⟩
theorem CountAt.set0 {w w' : World} {B cb n d : Nat} {c : Int} (h : CountAt w w' B cb n d c) (m : Nat) : CountAt w (w'.setCell ⟨cb, 0, none⟩ (.int .i64 m)) B cb m d c :=
 ⟨h.grown.trans (grown_set _ _ _ _), by rw [heap_setCell_same _ _ _ _ _ _ h.hc]; rfl, h.o1, h.o0⟩
theorem CountAt.set1 {w w' : World} {B cb n d : Nat} {c : Int} (h : CountAt w w' B cb n d c) (m : Nat) : CountAt w (w'.setCell ⟨cb, 1, none⟩ (.int .i64 m)) B cb n m c :=
 ⟨h.grown.trans (grown_set _ _ _ _), by rw [heap_setCell_same _ _ _ _ _ _ h.hc]; rfl, h.o1, h.o0⟩
theorem CountAt.set2 {w w' : World} {B cb n d : Nat} {c : Int} (h : CountAt w w' B cb n d c) (m : Int) : CountAt w (w'.setCell ⟨cb, 2, none⟩ (.int .i64 m)) B cb n d m :=
 ⟨h.grown.trans (grown_set _ _ _ _), by rw [heap_setCell_same _ _ _ _ _ _ h.hc]; rfl, h.o1, h.o0⟩
theorem CountAt.later {w w' w2 : World} {B cb n d : Nat} {c : Int} (h : CountAt w w' B cb n d c) (hb : Below w'.heap.size w' w2) : CountAt w w2 B cb n d c :=
 ⟨h.grown.trans (grown_below hb _), by rw [hb.block cb h.lt]; exact h.hc, h.o1, h.o0⟩
theorem CountAt.self {w w' : World} {B cb n d : Nat} {c : Int} (h : CountAt w w' B cb n d c) : CountAt w' w' B cb n d c := ⟨World.grownBy.refl _ _, h.hc, h.o1, Nat.le_trans h.o0 h.grown.size⟩
theorem CountAt.then {w w' w2 : World} {B cb n d n' d' : Nat} {c c' : Int} (h : CountAt w w' B cb n d c) (k : CountAt w' w2 B cb n' d' c') : CountAt w w2 B cb n' d' c' := ⟨h.grown.trans k.grown, k.hc, k.o1, h.o0⟩
structure CPart (w w' : World) (B cb n d p : Nat) (c : Int) (box : Array Value) : Prop where
 ct : CountAt w w' B cb n d c
 bx : w'.heap[p]? = some (.cells box 26 (0, 0))
 o2 : cb < p
theorem CPart.start {w : World} {B cb n d : Nat} {c : Int} (h : CountAt w w B cb n d c) (box : Array Value) : CPart w (w.alloc (.cells box 26)) B cb n d w.heap.size c box :=
 ⟨h.alloc _, heap_alloc_new _ _, h.lt⟩
theorem CPart.lt {w w' : World} {B cb n d p : Nat} {c : Int} {box : Array Value} (h : CPart w w' B cb n d p c box) : p < w'.heap.size := (Array.getElem?_eq_some_iff.1 h.bx).1
theorem CPart.nine {w w' : World} {B cb n d p : Nat} {c : Int} {b0 b1 b2 b3 b4 b5 b6 b7 b8 : Value} (h : CPart w w' B cb n d p c #[b0, b1, b2, b3, b4, b5, b6, b7, b8]) :
  w'.cell? ⟨p, 0, none⟩ = some b0 ∧ w'.cell? ⟨p, 1, none⟩ = some b1 ∧ w'.cell? ⟨p, 2, none⟩ = some b2 ∧ w'.cell? ⟨p, 3, none⟩ = some b3 ∧ w'.cell? ⟨p, 4, none⟩ = some b4 ∧ w'.cell? ⟨p, 5, none⟩ = some b5 ∧ w'.cell? ⟨p, 6, none⟩ = some b6 ∧ w'.cell? ⟨p, 7, none⟩ = some b7 ∧ w'.cell? ⟨p, 8, none⟩ = some b8 := by
 simp [World.cell?, h.bx]
theorem CPart.later {w w' w2 : World} {B cb n d p : Nat} {c : Int} {box : Array Value} (h : CPart w w' B cb n d p c box) (hb : Below w'.heap.size w' w2) : CPart w w2 B cb n d p c box :=
 ⟨h.ct.later hb, by rw [hb.block p h.lt]; exact h.bx, h.o2⟩
theorem CPart.set0 {w w' : World} {B cb n d p : Nat} {c : Int} {box : Array Value} (h : CPart w w' B cb n d p c box) (m : Nat) : CPart w (w'.setCell ⟨cb, 0, none⟩ (.int .i64 m)) B cb m d p c box :=
 ⟨h.ct.set0 m, by rw [Below.heap_setCell _ _ _ _ (by have := h.o2; simp; omega)]; exact h.bx, h.o2⟩
theorem CPart.set1 {w w' : World} {B cb n d p : Nat} {c : Int} {box : Array Value} (h : CPart w w' B cb n d p c box) (m : Nat) : CPart w (w'.setCell ⟨cb, 1, none⟩ (.int .i64 m)) B cb n m p c box :=
 ⟨h.ct.set1 m, by rw [Below.heap_setCell _ _ _ _ (by have := h.o2; simp; omega)]; exact h.bx, h.o2⟩
def Counted (f : Flt) (a n d B cb : Nat) (w : World) (e : Ending) (w' : World) : Prop := e = .returned (.tuple #[]) ∧ CountAt w w' B cb (walk f a n d).2.1 (walk f a n d).2.2 (walk f a n d).1
theorem counted_of {f : Flt} {a n d B cb : Nat} {w w' : World} {c : Int} {n' d' : Nat} (h : walk f a n d = (c, n', d')) (hat : CountAt w w' B cb n' d' c) : Counted f a n d B cb w (.returned (.tuple #[])) w' := by
 unfold Counted
 rw [h]
 exact ⟨rfl, hat⟩
theorem count_call {sp : Bool} {lo fuel : Nat} {f : Flt} {v : Value} {a n d : Nat} {w : World} {B cb : Nat} {c : Int} {n' d' : Nat}
  (ih : ∀ (f : Flt) (v : Value) (a n d : Nat) (w : World) (B cb : Nat), FAt sp w lo B fuel f v → CountAt w w B cb n d 0 → a ≤ 64 → n ≤ 65536 → d ≤ 64 →
   Calls Tryz.prog 36 #[.pointer (some ⟨cb, 0, none⟩), v, .int .i64 a] w (Counted f a n d B cb w))
  (h1 : FAt sp w lo B fuel f v) (h2 : CountAt w w B cb n d 0) (h3 : a + 1 ≤ 64) (h4 : n ≤ 65536) (h5 : d ≤ 64) (hq : walk f (a + 1) n d = (c, n', d')) :
  Calls Tryz.prog 36 #[.pointer (some ⟨cb, 0, none⟩), v, .int .i64 ((a : Int) + 1)] w fun e w' => e = .returned (.tuple #[]) ∧ CountAt w w' B cb n' d' c := by
 have h := ih f v (a + 1) n d w B cb h1 h2 h3 h4 h5
 refine h.mono fun e w' hw => ?_
 unfold Counted at hw
 rw [hq] at hw
 exact hw
theorem CPart.then {w w' w2 : World} {B cb n d n' d' p : Nat} {c c' : Int} {box : Array Value} (h : CPart w w' B cb n d p c box) (k : CountAt w' w2 B cb n' d' c') : CPart w w2 B cb n' d' p c' box :=
 ⟨h.ct.then k, by rw [k.grown.block p h.lt (by have := h.o2; simp; omega)]; exact h.bx, h.o2⟩
theorem long_rx (k : Int) (KA : Option Addr) (kn kc : Nat) (ds vl st : List UInt8) (MA : Option Addr) (ms : List (List UInt8)) (mn mc : Nat) (fn rl : List UInt8) (dn : Bool) (w : World) (hmn : ms.length = mn) (hm : TxtsAt w w.heap.size MA ms) (hf : Fits k kn kc ds vl st ms mc fn rl) :
  Calls Tryz.prog 57 #[.agg #[.int .i8 k, .slice KA kn kc, .string ⟨ds.toArray⟩, .string ⟨vl.toArray⟩, .string ⟨st.toArray⟩, .slice MA mn mc, .string ⟨fn.toArray⟩, .string ⟨rl.toArray⟩, .bool dn]] w
   fun e w' => ∃ x, Hid (FltLaw.long ds vl st ms fn rl = x) ∧ e = .returned (.bool x) ∧ Below w.heap.size w w' :=
 (long_r k KA kn kc ds vl st MA ms mn mc fn rl dn w hmn hm hf.ds1 hf.vl1 hf.st1 hf.fn1 hf.rl1 (by have := hf.mn1; omega) hf.ms1).mono fun _ _ ⟨h1, h2⟩ => ⟨_, rfl, h1, h2⟩
theorem fields_rx (k : Int) (KA : Option Addr) (kn kc : Nat) (ds vl st : List UInt8) (MA : Option Addr) (ms : List (List UInt8)) (mn mc : Nat) (fn rl : List UInt8) (dn : Bool) (w : World) (hmn : ms.length = mn) (hm : TxtsAt w w.heap.size MA ms) (hf : Fits k kn kc ds vl st ms mc fn rl) (hl : FltLaw.long ds vl st ms fn rl = false) :
  Calls Tryz.prog 58 #[.agg #[.int .i8 k, .slice KA kn kc, .string ⟨ds.toArray⟩, .string ⟨vl.toArray⟩, .string ⟨st.toArray⟩, .slice MA mn mc, .string ⟨fn.toArray⟩, .string ⟨rl.toArray⟩, .bool dn]] w
   fun e w' => ∃ x, Hid (FltLaw.right k kn ds vl st ms fn rl dn = x) ∧ e = .returned (.bool x) ∧ Below w.heap.size w w' :=
 (fields_r k KA kn kc ds vl st MA ms mn mc fn rl dn w hmn hm hf.k0 hf.k1 hf.kn1 (by have := long_bounds hl; omega) (by have := long_bounds hl; omega) (by have := hf.mn1; omega)).mono fun _ _ ⟨h1, h2⟩ => ⟨_, rfl, h1, h2⟩
set_option maxHeartbeats 3200000 in
set_option maxRecDepth 100000 in
theorem walk_r (sp : Bool) (lo : Nat) : ∀ (fuel : Nat) (f : Flt) (v : Value) (a n d : Nat) (w : World) (B cb : Nat), FAt sp w lo B fuel f v → CountAt w w B cb n d 0 → a ≤ 64 → n ≤ 65536 → d ≤ 64 →
  Calls Tryz.prog 36 #[.pointer (some ⟨cb, 0, none⟩), v, .int .i64 a] w (Counted f a n d B cb w) := by
 intro fuel
 induction fuel with
 | zero => intro f v a n d w B cb h; exact h.elim
 | succ fuel ih =>
  intro f v a n d w B cb hF hC ha hn hd
  obtain ⟨k, ks, ds, vl, st, ms, fn, rl, dn⟩ := f
  obtain ⟨KA, kc, MA, mc, rfl, hfit, hmA, hkA, _⟩ := hF
  have IH := Lib.hid ih
  have HF := Lib.hid hfit
  have HM := Lib.hid hmA
  have HK := Lib.hid hkA
  have hfk0 := hfit.k0
  have hfk1 := hfit.k1
  generalize hbox : (#[.int .i8 k, .slice KA ks.length kc, .string ⟨ds.toArray⟩, .string ⟨vl.toArray⟩, .string ⟨st.toArray⟩, .slice MA ms.length mc, .string ⟨fn.toArray⟩, .string ⟨rl.toArray⟩, .bool dn] : Array Value) = box
  have hat0 := CPart.start hC box
  rw [← hbox] at hat0
  have HA0 := Lib.hid hat0
  have hT : TxtsAt w B MA ms := fun h0 => let ⟨ad, g1, _, g2, g3⟩ := hmA h0; ⟨ad, g1, g2, g3⟩
  have HT := Lib.hid hT
  have hBw : B ≤ w.heap.size := by have := hC.lt; have := hC.o1; omega
  have HB := Lib.hid hBw
  obtain ⟨e0, e1, e2, e3, e4, e5⟩ := hat0.ct.three
  clear ih hfit hmA hkA hC hat0 hbox box hT hBw
  unfold flt
  by_cases h1 : 64 ≤ a
  ·have h1' : (63 : Int) < a := by omega
   go_enter Tryz.func36, Tryz.ntmps36
   go_wp2_with fail
   (try simp only [Exit.inBlock, Exit.then])
   refine bodyPost_ret (results_none rfl _ _ _) rfl ?_
   exact counted_of (walk_deep h1) (HA0.out.ct.set2 91)
  ·have h1' : (a : Int) ≤ 63 := by omega
   go_enter Tryz.func36, Tryz.ntmps36
   obtain ⟨n', hn'⟩ : ∃ n', n' = if k = 2 then n else n + 1 := ⟨_, rfl⟩
   have hn1 : n' ≤ 65537 := by split at hn' <;> omega
   have HN' := Lib.hid hn'
   clear hn'
   go_upto_if 14 with fail
   go_cut [15, 16, 17, 18, 19, 20, 21] (fun _ _ _ _ _ _ _ w' => CPart w w' B cb n' d w.heap.size 0 #[.int .i8 k, .slice KA ks.length kc, .string ⟨ds.toArray⟩, .string ⟨vl.toArray⟩, .string ⟨st.toArray⟩, .slice MA ms.length mc, .string ⟨fn.toArray⟩, .string ⟨rl.toArray⟩, .bool dn])
   case first =>
    by_cases hk : k = 2
    ·subst hk
     go_wp2_with fail
     go_meet
     case rel =>
      have e : n' = n := HN'.out
      rw [e]
      exact HA0.out
    ·have hk' : (k != 2) = true := by simpa using hk
     go_wp2_with fail
     go_meet
     case rel =>
      have e : n' = n + 1 := by rw [HN'.out, if_neg hk]
      rw [e]
      exact HA0.out.set0 (n + 1)
   case rest =>
    clear e0 e1 e2 e3 e4 e5
    have HC := Lib.hid hcut
    obtain ⟨e0, e1, e2, e3, e4, e5⟩ := hcut.ct.three
    clear hcut
    go_upto_if 28 with fail
    go_cut [29, 30, 31, 32, 33] (fun _ _ _ _ _ w' => CPart w w' B cb n' (max d (a + 1)) w.heap.size 0 #[.int .i8 k, .slice KA ks.length kc, .string ⟨ds.toArray⟩, .string ⟨vl.toArray⟩, .string ⟨st.toArray⟩, .slice MA ms.length mc, .string ⟨fn.toArray⟩, .string ⟨rl.toArray⟩, .bool dn])
    case first =>
     by_cases hk : d < a + 1
     ·have hk' : (d : Int) < (a : Int) + 1 := by omega
      go_wp2_with fail
      go_meet
      case rel =>
       have e : max d (a + 1) = a + 1 := by omega
       rw [e]
       exact HC.out.set1 (a + 1)
     ·have hk' : (a : Int) + 1 ≤ (d : Int) := by omega
      go_wp2_with fail
      go_meet
      case rel =>
       have e : max d (a + 1) = d := by omega
       rw [e]
       exact HC.out
    case rest =>
     clear HC e0 e1 e2 e3 e4 e5
     have HC := Lib.hid hcut
     obtain ⟨e0, e1, e2, e3, e4, e5⟩ := hcut.ct.three
     obtain ⟨k0, k1, k2, k3, k4, k5, k6, k7, k8⟩ := hcut.nine
     clear hcut
     by_cases hbig : 65536 < n'
     ·have hbig' : (65536 : Int) < n' := by omega
      go_wp2_with fail
      (try simp only [Exit.inBlock, Exit.then])
      refine bodyPost_ret (results_none rfl _ _ _) rfl ?_
      exact counted_of (walk_long h1 HN'.out (.inl hbig)) (HC.out.ct.set2 3)
     ·have hbig' : (n' : Int) ≤ 65536 := by omega
      have hB := HC.out.ct.below.size
      have hBw : B ≤ w.heap.size := by have := HB.out; omega
      go_wp2_with (first
       | (go_at_call 57; (with_reducible refine (long_rx k KA ks.length kc ds vl st MA ms ms.length mc fn rl dn wc rfl ((HT.out.below HC.out.ct.below).more (by omega)) HF.out).mono ?_); rintro e w2 ⟨x, HX, rfl, hb2⟩; have hat2 := HC.out.later hb2; obtain ⟨j0, j1, j2, j3, j4, j5, j6, j7, j8⟩ := hat2.nine; obtain ⟨x0, x1, x2, x3, x4, x5⟩ := hat2.ct.three; have HC2 := Lib.hid hat2; have hB2 := hat2.ct.below.size; clear hat2 hb2)
       | (go_at_call 58; (with_reducible refine (fields_rx k KA ks.length kc ds vl st MA ms ms.length mc fn rl dn w2 rfl ((HT.out.below HC2.out.ct.below).more (by omega)) HF.out (HX.out.trans (show (n' : Int) ≤ 65536 ∧ x = false by assumption).2)).mono ?_); rintro e w3 ⟨y, HY, rfl, hb3⟩; have hat3 := HC2.out.later hb3; obtain ⟨i0, i1, i2, i3, i4, i5, i6, i7, i8⟩ := hat3.nine; obtain ⟨y0, y1, y2, y3, y4, y5⟩ := hat3.ct.three; have HC3 := Lib.hid hat3; have hB3 := hat3.ct.below.size; clear hat3 hb3))
      ·have g : 65536 < (n' : Int) ∨ x = true := by assumption
       have hx : x = true := g.resolve_left (by omega)
       (try simp only [Exit.inBlock, Exit.then])
       refine bodyPost_ret (results_none rfl _ _ _) rfl ?_
       exact counted_of (walk_long h1 HN'.out (.inr (HX.out.trans hx))) (HC2.out.ct.set2 3)
      ·have g : (n' : Int) ≤ 65536 ∧ x = false := by assumption
       have gy : (!y) = true := by assumption
       (try simp only [Exit.inBlock, Exit.then])
       refine bodyPost_ret (results_none rfl _ _ _) rfl ?_
       exact counted_of (walk_bad h1 HN'.out hbig (HX.out.trans g.2) (HY.out.trans (by simpa using gy))) (HC3.out.ct.set2 90)
      ·have g : (n' : Int) ≤ 65536 ∧ x = false := by assumption
       have gy : (!y) = false := by assumption
       have hw : walk (.mk k ks ds vl st ms fn rl dn) a n d = walk.walks ks (a + 1) n' (max d (a + 1)) := walk_kids h1 HN'.out hbig (HX.out.trans g.2) (HY.out.trans (by simpa using gy))
       have HW := Lib.hid hw
       obtain rfl : y = true := by simpa using gy
       have HKN := HF.out.kn1
       have HKC := HF.out.kc0
       clear hw j0 j1 j2 j3 j4 j5 j6 j7 j8 x0 x1 x2 x3 x4 x5 y0 y1 y2 y3 y4 y5 i0 i1 i2 i3 i4 i5 i6 i7 i8 HC2 hB2 g gy
       go_loopw [6] (fun i wr => ∃ (j n2 d2 : Nat) (c2 : Int), j ≤ ks.length ∧ i = .int .i64 j ∧ d2 ≤ 64 ∧ ((c2 = 0 ∧ n2 ≤ 65536 ∧ walk.walks (ks.drop j) (a + 1) n2 d2 = walk.walks ks (a + 1) n' (max d (a + 1))) ∨ (c2 ≠ 0 ∧ walk.walks ks (a + 1) n' (max d (a + 1)) = (c2, n2, d2))) ∧
        CPart w wr B cb n2 d2 w.heap.size c2 #[.int .i8 k, .slice KA ks.length kc, .string ⟨ds.toArray⟩, .string ⟨vl.toArray⟩, .string ⟨st.toArray⟩, .slice MA ms.length mc, .string ⟨fn.toArray⟩, .string ⟨rl.toArray⟩, .bool dn]) (fun i _ => ks.length - (RowKit.intOf i).toNat)
       case atStart => exact ⟨0, n', max d (a + 1), 0, by omega, rfl, by omega, .inl ⟨rfl, by omega, rfl⟩, HC3.out⟩
       case round =>
        obtain ⟨j, n2, d2, c2, hj, rfl, hd2, hwk, hat⟩ := hrel
        have HWK := Lib.hid hwk
        have HAT := Lib.hid hat
        obtain ⟨q0, q1, q2, q3, q4, q5⟩ := hat.ct.three
        obtain ⟨k0, k1, k2, k3, k4, k5, k6, k7, k8⟩ := hat.nine
        have hbw := hat.ct.below
        clear hwk hat
        by_cases hlt : j < ks.length
        ·by_cases hc2 : c2 = 0
         ·subst hc2
          obtain ⟨ad, rfl, _, hadB, hel⟩ := HK.out (by omega)
          have hke := List.getElem?_eq_getElem hlt
          generalize ks[j] = q at hke
          obtain ⟨fv, hfv, hcells⟩ := hel j _ hke
          have hfv2 := hfv.below hbw
          have HFV := Lib.hid hfv2
          obtain ⟨b0, b1, b2, b3, b4, b5, b6, b7, b8, rfl⟩ := (FAt.form hfv)
          have HKE := Lib.hid hke
          obtain ⟨c3, n3, d3, hq⟩ : ∃ c3 n3 d3, walk q (a + 1) n2 d2 = (c3, n3, d3) := ⟨_, _, _, rfl⟩
          have HQ := Lib.hid hq
          obtain ⟨l0, l1, l2, l3, l4, l5, l6, l7, l8⟩ := nine_at (w := wr) (m := j * 9) (fun q u hu => (hbw.cell (p := ad.add (j * 9 + q)) (by rw [RankLaw.add_block]; exact hadB)).trans (hcells q u hu))
          obtain ⟨_, hn2', hw2⟩ : (0 : Int) = 0 ∧ n2 ≤ 65536 ∧ walk.walks (ks.drop j) (a + 1) n2 d2 = walk.walks ks (a + 1) n' (max d (a + 1)) := HWK.out.resolve_right fun h => h.1 rfl
          have HW2 := Lib.hid hw2
          clear hel hfv hcells hfv2 hke hq hw2 hbw
          go_wp2_with (first
           | (go_at_call 36; (with_reducible refine (count_call IH.out HFV.out HAT.out.ct.self (by omega) hn2' hd2 HQ.out).mono ?_); rintro e w4 ⟨rfl, hw4⟩; have HW4 := Lib.hid hw4; clear hw4))
          have e := HW2.out
          rw [walks_drop HKE.out, HQ.out] at e
          have m2 := walk_d64 q (a + 1) n2 d2 hd2
          rw [HQ.out] at m2
          have hnext : (c3 = 0 ∧ n3 ≤ 65536 ∧ walk.walks (ks.drop (j + 1)) (a + 1) n3 d3 = walk.walks ks (a + 1) n' (max d (a + 1))) ∨ (c3 ≠ 0 ∧ walk.walks ks (a + 1) n' (max d (a + 1)) = (c3, n3, d3)) := by
           by_cases h0 : c3 = 0
           ·rw [if_pos h0] at e
            have m1 := (walk_more q (a + 1) n2 d2 (by rw [HQ.out]; exact h0)).2
            rw [HQ.out] at m1
            exact .inl ⟨h0, m1, e⟩
           ·rw [if_neg h0] at e
            exact .inr ⟨h0, e.symm⟩
          simp only [Bool.not_true]
          go_round
          case rel => exact ⟨j + 1, n3, d3, c3, by omega, by go_num, m2, hnext, HAT.out.then HW4.out⟩
          case measure => simp [RowKit.intOf]; omega
         ·go_wp2_with fail
          refine bodyPost_end (results_none rfl _ _ _) rfl ?_
          have h2 := HWK.out.resolve_left fun h => hc2 h.1
          exact counted_of (HW.out.trans h2.2) HAT.out.ct
        ·go_wp2_with fail
         refine bodyPost_end (results_none rfl _ _ _) rfl ?_
         have e : ks.drop j = [] := List.drop_eq_nil_of_le (by omega)
         rcases HWK.out with ⟨rfl, _, h2⟩ | ⟨_, h2⟩
         ·rw [e, walk.walks] at h2
          exact counted_of (HW.out.trans h2.symm) HAT.out.ct
         ·exact counted_of (HW.out.trans h2) HAT.out.ct
end Go.Proofs.YtdkfmckbeagenaaGreatDoor

namespace Go.Proofs.YtdkfmckbeagenaaGreatDoor
open Go.RowKit Go.FltLaw Go.Lib

def Checks (f : Flt) (w : World) (e : Ending) (w' : World) : Prop :=
 e = .returned (.tuple #[.int .i64 (check f).1, .int .i64 (check f).2.1, .int .i64 (check f).2.2]) ∧ Below w.heap.size w w'
theorem check_bad {f : Flt} {c : Int} {n d : Nat} (h : walk f 0 0 0 = (c, n, d)) (hc : c ≠ 0) : check f = (c, 0, 0) := by
 unfold check
 rw [h, if_neg hc]
theorem check_good {f : Flt} {c : Int} {n d : Nat} (h : walk f 0 0 0 = (c, n, d)) (hc : c = 0) : check f = (0, n, d) := by
 subst hc
 unfold check
 rw [h, if_pos rfl]
theorem checks_of {f : Flt} {c : Int} {n d : Nat} {w w' : World} (h : check f = (c, n, d)) (hb : Below w.heap.size w w') : Checks f w (.returned (.tuple #[.int .i64 c, .int .i64 n, .int .i64 d])) w' := by
 unfold Checks
 rw [h]
 exact ⟨rfl, hb⟩
theorem below_drewN {B : Nat} {a w : World} (h : Below B a w) (q : Nat) : Below B a (w.drewN q) := ⟨h.os, h.tape, h.output, h.size, h.block⟩
theorem count_start {w : World} (o : Obj) : CountAt ((w.alloc o).alloc (.cells #[.int .i64 0, .int .i64 0, .int .i64 0] 59)) ((w.alloc o).alloc (.cells #[.int .i64 0, .int .i64 0, .int .i64 0] 59)) w.heap.size (w.heap.size + 1) 0 0 0 :=
 ⟨World.grownBy.refl _ _, by have := heap_alloc_new (w.alloc o) (.cells #[.int .i64 0, .int .i64 0, .int .i64 0] 59); simpa using this, by omega, by simp; omega⟩
theorem count_zero {sp : Bool} {lo fuel : Nat} {f : Flt} {v : Value} {w : World} {B cb : Nat} {c : Int} {n' d' : Nat} (h1 : FAt sp w lo B fuel f v) (h2 : CountAt w w B cb 0 0 0) (hq : walk f 0 0 0 = (c, n', d')) :
  Calls Tryz.prog 36 #[.pointer (some ⟨cb, 0, none⟩), v, .int .i64 0] w fun e w' => e = .returned (.tuple #[]) ∧ CountAt w w' B cb n' d' c := by
 have h := walk_r sp lo fuel f v 0 0 0 w B cb h1 h2 (by omega) (by omega) (by omega)
 refine h.mono fun e w' hw => ?_
 unfold Counted at hw
 rw [hq] at hw
 exact hw
set_option maxHeartbeats 1600000 in
set_option maxRecDepth 100000 in
theorem check_r (sp : Bool) (lo B fuel : Nat) (f : Flt) (v : Value) (w : World) (hF : FAt sp w lo B fuel f v) (hB : B ≤ w.heap.size) :
  Calls Tryz.prog 20 #[v] w (Checks f w) := by
 obtain ⟨c, n, d, hq⟩ : ∃ c n d, walk f 0 0 0 = (c, n, d) := ⟨_, _, _, rfl⟩
 have HQ := Lib.hid hq
 have hFw : ∀ o o', FAt sp ((w.alloc o).alloc o') lo w.heap.size fuel f v := fun o o' => (hF.below (((Below.refl B w).alloc hB o).alloc (by simp; omega) o')).wide (Nat.le_refl _) hB
 have HF := Lib.hid hFw
 obtain ⟨k2, A2, m2, c2', s2, s3, s4, A5, m5, c5, s6, s7, x8, rfl⟩ := (FAt.formF hF)
 have hbb : ∀ o o', Below w.heap.size w ((w.alloc o).alloc o') := fun o o' => ((Below.refl _ w).alloc (Nat.le_refl _) o).alloc (by simp) o'
 have HBB := Lib.hid hbb
 clear hq hF hFw hbb
 go_enter Tryz.func20, Tryz.ntmps20
 go_wp2_with (first
  | (go_at_call 36; (with_reducible refine (count_zero (HF.out _ _) (count_start _) HQ.out).mono ?_); rintro e w3 ⟨rfl, hw3⟩; obtain ⟨e0, e1, e2, _, _, _⟩ := hw3.three; have HW3 := Lib.hid ((HBB.out _ _).trans hw3.below); clear hw3))
 ·have g : (c != 0) = true := by assumption
  refine bodyPost_ret (results_tmp3 rfl _ _ _) rfl ?_
  exact checks_of (check_bad HQ.out (by simpa using g)) HW3.out
 ·have g : (c != 0) = false := by assumption
  go_quiet (fail)
  go_wp2
  refine bodyPost_ret (results_tmp3 rfl _ _ _) rfl ?_
  exact checks_of (check_good HQ.out (by simpa using g)) (below_drewN HW3.out _)
end Go.Proofs.YtdkfmckbeagenaaGreatDoor

namespace Go.Proofs.YtdkfmckbeagenaaGreatDoor
open Go.RowKit Go.FltLaw Go.Lib

theorem results_tcc {fn : Func} {t p q : Tmp} {ty uy : TypeId} (h : fn.results = #[.tmp t, .cell p ty, .cell q uy]) (tmps : Array Value) (P : Program) (w : World) :
  (results fn tmps).run P w =
   ((asAddr (tmps.getD p undef)).run P w).andThen fun a w₁ => ((loadVar ty a).run P w₁).andThen fun v w₂ => ((asAddr (tmps.getD q undef)).run P w₂).andThen fun b w₃ => ((loadVar uy b).run P w₃).andThen fun u w₄ => .ok (.tuple #[tmps.getD t undef, v, u]) w₄ := by
 simp only [results, h]
 simp [Sem.run_bind, Result.andThen]
theorem walk_zero {sp : Bool} {lo fuel : Nat} {f : Flt} {v : Value} {w : World} {B nb db wb : Nat} {c : Int} {n' d' : Nat} (h1 : FAt sp w lo B fuel f v) (h2 : Walking w B nb db wb 0 0) (h6 : MaxVar w) (h7 : 1 < B) (hq : walk f 0 0 0 = (c, n', d')) :
  Calls Tryz.prog 33 #[v, .int .i64 0, .pointer (some ⟨db, 0, none⟩), .pointer (some ⟨nb, 0, none⟩), .pointer (some ⟨wb, 0, none⟩)] w fun e w' => e = .returned (.int .i64 c) ∧ Walking w' B nb db wb n' d' ∧ Below B w w' := by
 have h := walk_p sp lo fuel f v 0 0 0 w B nb db wb h1 h2 (by omega) (by omega) (by omega) h6 h7
 refine h.mono fun e w' hw => ?_
 unfold Walked at hw
 rw [hq] at hw
 exact hw
theorem walking_start (w : World) (o : Obj) : Walking ((((w.alloc o).alloc (.cells #[.int .i64 0] 3)).alloc (.cells #[.int .i64 0] 3)).alloc (.cells #[.func (.func 33) #[] #[.pointer (some ⟨w.heap.size + 1 + 1, 0, none⟩), .pointer (some ⟨w.heap.size + 1, 0, none⟩), .pointer (some ⟨w.heap.size + 1 + 1 + 1, 0, none⟩)]] 56))
  w.heap.size (w.heap.size + 1) (w.heap.size + 1 + 1) (w.heap.size + 1 + 1 + 1) 0 0 := by
 refine ⟨?_, ?_, ?_, by omega, by omega, by omega⟩
 ·rw [Below.heap_alloc _ _ _ (by simp), Below.heap_alloc _ _ _ (by simp)]
  have := heap_alloc_new (w.alloc o) (.cells #[.int .i64 0] 3)
  simpa using this
 ·rw [Below.heap_alloc _ _ _ (by simp)]
  have := heap_alloc_new ((w.alloc o).alloc (.cells #[.int .i64 0] 3)) (.cells #[.int .i64 0] 3)
  simpa using this
 ·have := heap_alloc_new (((w.alloc o).alloc (.cells #[.int .i64 0] 3)).alloc (.cells #[.int .i64 0] 3)) (.cells #[.func (.func 33) #[] #[.pointer (some ⟨w.heap.size + 1 + 1, 0, none⟩), .pointer (some ⟨w.heap.size + 1, 0, none⟩), .pointer (some ⟨w.heap.size + 1 + 1 + 1, 0, none⟩)]] 56)
  simpa using this
set_option maxHeartbeats 1600000 in
set_option maxRecDepth 100000 in
theorem check_p (sp : Bool) (lo B fuel : Nat) (f : Flt) (v : Value) (w : World) (hF : FAt sp w lo B fuel f v) (hB : B ≤ w.heap.size) (hv : MaxVar w) (hM : 1 < w.heap.size) :
  Calls Tryz.prog 17 #[v] w (Checks f w) := by
 obtain ⟨c, n, d, hq⟩ : ∃ c n d, walk f 0 0 0 = (c, n, d) := ⟨_, _, _, rfl⟩
 have HQ := Lib.hid hq
 have hbb : ∀ o o1 o2 o3, Below w.heap.size w ((((w.alloc o).alloc o1).alloc o2).alloc o3) := fun o o1 o2 o3 => ((((Below.refl _ w).alloc (Nat.le_refl _) o).alloc (by simp) o1).alloc (by simp; omega) o2).alloc (by simp; omega) o3
 have hFw : ∀ o o1 o2 o3, FAt sp ((((w.alloc o).alloc o1).alloc o2).alloc o3) lo w.heap.size fuel f v := fun o o1 o2 o3 => (hF.wide (Nat.le_refl _) hB).below (hbb o o1 o2 o3)
 have hvw : ∀ o o1 o2 o3, MaxVar ((((w.alloc o).alloc o1).alloc o2).alloc o3) := fun o o1 o2 o3 => hv.below (hbb o o1 o2 o3) hM
 have HF := Lib.hid hFw
 have HV := Lib.hid hvw
 have HBB := Lib.hid hbb
 obtain ⟨k2, A2, m2, c2', s2, s3, s4, A5, m5, c5, s6, s7, x8, rfl⟩ := (FAt.formF hF)
 clear hq hF hFw hbb hvw
 go_enter Tryz.func17, Tryz.ntmps17
 go_wp2_with (first
  | (go_at_call 33; (with_reducible refine (walk_zero (HF.out _ _ _ _) (walking_start _ _) (HV.out _ _ _ _) hM HQ.out).mono ?_); rintro e w3 ⟨rfl, hw3, hb3⟩; have hc3 := hw3.cells; have HW3 := Lib.hid hw3; have HB3 := Lib.hid ((HBB.out _ _ _ _).trans hb3); obtain ⟨e0, e1, e2, e3, e4⟩ := hc3; clear hw3 hb3))
 ·have g : (c != 0) = true := by assumption
  refine bodyPost_ret (v := .tuple #[.int .i64 c, .int .i64 0, .int .i64 0]) ?_ rfl ?_
  ·rw [results_tcc rfl]
   go_simp
  ·exact checks_of (check_bad HQ.out (by simpa using g)) ((HB3.out.setCell (p := ⟨w.heap.size + 1, 0, none⟩) (by simp) _).setCell (p := ⟨w.heap.size + 1 + 1, 0, none⟩) (by simp; omega) _)
 ·have g : (c != 0) = false := by assumption
  go_region
  all_goals
   go_wp2
   refine bodyPost_ret (v := .tuple #[.int .i64 0, .int .i64 n, .int .i64 d]) ?_ rfl ?_
   ·rw [results_tcc rfl]
    go_simp
   ·refine checks_of (check_good HQ.out (by simpa using g)) (Below.drew ?_)
    first
     | exact (HB3.out.setCell (p := ⟨w.heap.size + 1, 0, none⟩) (by simp) _).setCell (p := ⟨w.heap.size + 1 + 1, 0, none⟩) (by simp; omega) _
     | exact (HB3.out.setCell (p := ⟨w.heap.size + 1 + 1, 0, none⟩) (by simp; omega) _).setCell (p := ⟨w.heap.size + 1, 0, none⟩) (by simp) _
theorem checks_x {P : Program} {F : Nat} {args : Array Value} {f : Flt} {w : World} (h : Calls P F args w (Checks f w)) {c : Int} {n d : Nat} (hc : check f = (c, n, d)) :
  Calls P F args w fun e w' => e = .returned (.tuple #[.int .i64 c, .int .i64 n, .int .i64 d]) ∧ Below w.heap.size w w' := h.mono fun e w' hw => by
 unfold Checks at hw
 rw [hc] at hw
 exact hw
theorem check_may (f : Flt) : (check f).1 = 0 ↔ FltLaw.may f := by
 unfold check FltLaw.may
 by_cases h : (walk f 0 0 0).1 = 0
 ·rw [if_pos h]
 ·rw [if_neg h]
theorem may_of {c : Int} {n d : Nat} {f : Flt} (h : check f = (c, n, d)) : Ending.returned (.bool (c == 0)) = .returned (.bool (decide (FltLaw.may f))) := by
 have := check_may f
 rw [h] at this
 exact ret_bool (by simpa using this)
set_option maxHeartbeats 800000 in
set_option maxRecDepth 100000 in
theorem may_r (sp : Bool) (lo B fuel : Nat) (f : Flt) (v : Value) (w : World) (hF : FAt sp w lo B fuel f v) (hB : B ≤ w.heap.size) :
  Calls Tryz.prog 37 #[v] w fun e w' => e = .returned (.bool (decide (FltLaw.may f))) ∧ Below w.heap.size w w' := by
 obtain ⟨c, n, d, hq⟩ : ∃ c n d, check f = (c, n, d) := ⟨_, _, _, rfl⟩
 have HQ := Lib.hid hq
 have hFw : ∀ o, FAt sp (w.alloc o) lo B fuel f v := fun o => hF.below ((Below.refl B w).alloc hB o)
 have HF := Lib.hid hFw
 have hbb : ∀ o, Below w.heap.size w (w.alloc o) := fun o => (Below.refl _ w).alloc (Nat.le_refl _) o
 have HBB := Lib.hid hbb
 obtain ⟨k2, A2, m2, c2', s2, s3, s4, A5, m5, c5, s6, s7, x8, rfl⟩ := (FAt.formF hF)
 clear hq hF hFw hbb
 go_enter Tryz.func37, Tryz.ntmps37
 go_wp2_with (first
  | (go_at_call 20; (with_reducible refine (checks_x (check_r sp lo B fuel f _ _ (HF.out _) (by simp; omega)) HQ.out).mono ?_); rintro e w3 ⟨rfl, hb3⟩; have HB3 := Lib.hid ((HBB.out _).trans (hb3.mono (by simp))); clear hb3))
 go_ret
 exact ⟨may_of HQ.out, HB3.out⟩
set_option maxHeartbeats 800000 in
set_option maxRecDepth 100000 in
theorem may_p (sp : Bool) (lo B fuel : Nat) (f : Flt) (v : Value) (w : World) (hF : FAt sp w lo B fuel f v) (hB : B ≤ w.heap.size) (hv : MaxVar w) (hM : 1 < w.heap.size) :
  Calls Tryz.prog 41 #[v] w fun e w' => e = .returned (.bool (decide (FltLaw.may f))) ∧ Below w.heap.size w w' := by
 obtain ⟨c, n, d, hq⟩ : ∃ c n d, check f = (c, n, d) := ⟨_, _, _, rfl⟩
 have HQ := Lib.hid hq
 have hFw : ∀ o, FAt sp (w.alloc o) lo B fuel f v := fun o => hF.below ((Below.refl B w).alloc hB o)
 have HF := Lib.hid hFw
 have hbb : ∀ o, Below w.heap.size w (w.alloc o) := fun o => (Below.refl _ w).alloc (Nat.le_refl _) o
 have HBB := Lib.hid hbb
 have hvw : ∀ o, MaxVar (w.alloc o) := fun o => hv.below (hbb o) hM
 have HV := Lib.hid hvw
 obtain ⟨k2, A2, m2, c2', s2, s3, s4, A5, m5, c5, s6, s7, x8, rfl⟩ := (FAt.formF hF)
 clear hq hF hFw hbb hvw
 go_enter Tryz.func41, Tryz.ntmps41
 go_wp2_with (first
  | (go_at_call 17; (with_reducible refine (checks_x (check_p sp lo B fuel f _ _ (HF.out _) (by simp; omega) (HV.out _) (by simp; omega)) HQ.out).mono ?_); rintro e w3 ⟨rfl, hb3⟩; have HB3 := Lib.hid ((HBB.out _).trans (hb3.mono (by simp))); clear hb3))
 go_ret
 exact ⟨may_of HQ.out, HB3.out⟩
end Go.Proofs.YtdkfmckbeagenaaGreatDoor
