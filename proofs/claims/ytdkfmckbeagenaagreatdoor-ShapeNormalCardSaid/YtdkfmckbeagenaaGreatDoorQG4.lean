/-
  A filter whose lists lie in rows of its own, each part's in blocks of its own: what may be written over.
  filter.twin: a filter in rows of its own.
  filter.Twin of a filter that may be: a filter in rows of its own.
  shape.Normal: a filter in rows of its own.
  rosterlaw16.spoil: a filter in rows of its own is written over, and grown: what lies elsewhere lies still.
-/
import Derived.Test.YtdkfmckbeagenaaGreatDoorQA2
import Derived.Test.YtdkfmckbeagenaaGreatDoorQD3
import Derived.Test.YtdkfmckbeagenaaGreatDoorQD2
import Derived.Test.YtdkfmckbeagenaaGreatDoorQE5
import Derived.Deep.MidRow
import Derived.Laws.OwnMore
import Derived.Deep.AppendLies
set_option linter.unusedVariables false
set_option linter.unusedSimpArgs false
namespace Go.Proofs.YtdkfmckbeagenaaGreatDoor
open Go.RowKit Go.FltLaw Go.Lib Go.RankLaw

def OAt (w : World) : Nat → Nat → Nat → Flt → Value → Prop
 | _, _, 0, _, _ => False
 | lo, hi, n + 1, .mk k ks ds vl st ms fn rl dn, v => ∃ (KA : Option Addr) (kc : Nat) (MA : Option Addr) (mc : Nat) (xs : List Value) (L R : Nat → Nat),
   v = flt k KA ks.length kc ds vl st MA ms.length mc fn rl dn ∧ Fits k ks.length kc ds vl st ms mc fn rl ∧
   w.ownsRow lo 26 9 (.slice KA ks.length kc) ks.length xs ∧ w.ownsRow lo 9 1 (.slice MA ms.length mc) ms.length (ms.map txt) ∧
   (∀ b, (Value.slice KA ks.length kc).ownBlock = some b → b < hi) ∧ (∀ b, (Value.slice MA ms.length mc).ownBlock = some b → b < hi) ∧
   (∀ i f, ks[i]? = some f → ∃ v, OAt w (L i) (R i) n f v ∧ lo ≤ L i ∧ R i ≤ hi ∧
    (∀ b, (Value.slice KA ks.length kc).ownBlock = some b → b < L i ∨ R i ≤ b) ∧ (∀ b, (Value.slice MA ms.length mc).ownBlock = some b → b < L i ∨ R i ≤ b) ∧ ∀ j u, v.cells[j]? = some u → xs[i * 9 + j]? = some u) ∧
   ∀ i j, i < j → j < ks.length → R i ≤ L j
theorem own_at {w w' : World} {B B' n : Nat} {e : TypeId} {size : Nat} {v : Value} {xs : List Value} (h : w.ownsRow B e size v n xs) (hB : B' ≤ B) (hk : ∀ b, B ≤ b → v.ownBlock = some b → w'.heap[b]? = w.heap[b]?) : w'.ownsRow B' e size v n xs := by
 obtain ⟨h1, h2⟩ := h
 refine ⟨h1, ?_⟩
 rcases h2 with h2 | ⟨g, cap, cur, hv, hg, hh, r⟩
 ·exact .inl h2
 ·exact .inr ⟨g, cap, cur, hv, by omega, by rw [hk g hg (by rw [hv]; rfl)]; exact hh, r⟩
theorem OAt.keep {w w' : World} : ∀ {n lo hi : Nat} {f : Flt} {v : Value}, OAt w lo hi n f v → (∀ b, lo ≤ b → b < hi → w'.heap[b]? = w.heap[b]?) → OAt w' lo hi n f v
 | 0, _, _, _, _, h, _ => h
 | n + 1, lo, hi, .mk k ks ds vl st ms fn rl dn, v, h, hk => by
  obtain ⟨KA, kc, MA, mc, xs, L, R, hv, hf, hr, hm, h1, h2, hks, hLR⟩ := h
  refine ⟨KA, kc, MA, mc, xs, L, R, hv, hf, own_at hr (Nat.le_refl _) fun b hb e => hk b hb (h1 b e), own_at hm (Nat.le_refl _) fun b hb e => hk b hb (h2 b e), h1, h2, fun i f hi => ?_, hLR⟩
  obtain ⟨v, hv, g1, g2, g3⟩ := hks i f hi
  exact ⟨v, OAt.keep hv fun b hb hb' => hk b (by omega) (by omega), g1, g2, g3⟩
theorem OAt.wide {w : World} : ∀ {n lo hi lo' hi' : Nat} {f : Flt} {v : Value}, OAt w lo hi n f v → lo' ≤ lo → hi ≤ hi' → OAt w lo' hi' n f v
 | 0, _, _, _, _, _, _, h, _, _ => h
 | n + 1, lo, hi, lo', hi', .mk k ks ds vl st ms fn rl dn, v, h, hl, hh => by
  obtain ⟨KA, kc, MA, mc, xs, L, R, hv, hf, hr, hm, h1, h2, hks, hLR⟩ := h
  refine ⟨KA, kc, MA, mc, xs, L, R, hv, hf, own_at hr hl fun _ _ _ => rfl, own_at hm hl fun _ _ _ => rfl, fun b e => Nat.lt_of_lt_of_le (h1 b e) hh, fun b e => Nat.lt_of_lt_of_le (h2 b e) hh, fun i f hi => ?_, hLR⟩
  obtain ⟨v, hv, g1, g2, g3⟩ := hks i f hi
  exact ⟨v, hv, Nat.le_trans hl g1, Nat.le_trans g2 hh, g3⟩
theorem slice_at {w : World} {B c n m : Nat} {A : Option Addr} {e : TypeId} {size : Nat} {xs : List Value} (h : w.ownsRow B e size (.slice A n c) m xs) (hn : 0 < n) (hnm : n = m) :
  ∃ g, A = some ⟨g, 0, none⟩ ∧ B ≤ g ∧ g < w.heap.size ∧ ∀ j u, xs[j]? = some u → w.cell? ((⟨g, 0, none⟩ : Addr).add j) = some u := by
 subst hnm
 obtain ⟨A', c', e, _, _, h3⟩ := own_slice h
 simp only [Value.slice.injEq] at e
 obtain ⟨rfl, _, rfl⟩ := e
 exact h3 hn
theorem OAt.at {w : World} : ∀ {n lo hi : Nat} {f : Flt} {v : Value}, OAt w lo hi n f v → FAt false w lo hi n f v
 | 0, _, _, _, _, h => h
 | n + 1, lo, hi, .mk k ks ds vl st ms fn rl dn, v, h => by
  obtain ⟨KA, kc, MA, mc, xs, L, R, hv, hf, hr, hm, h1, h2, hks, hLR⟩ := h
  refine ⟨KA, kc, MA, mc, hv, hf, fun h0 => ?_, fun h0 => ?_, fun h => by cases h⟩
  ·obtain ⟨g, rfl, g1, _, g3⟩ := slice_at hm h0 rfl
   exact ⟨_, rfl, g1, h2 g rfl, fun j u hu => g3 j (txt u) (by rw [List.getElem?_map, hu]; rfl)⟩
  ·obtain ⟨g, rfl, g1, _, g3⟩ := slice_at hr h0 rfl
   refine ⟨_, rfl, g1, h1 g rfl, fun i f hi => ?_⟩
   obtain ⟨v, hv, q1, q2, q3, q4, q5⟩ := hks i f hi
   exact ⟨v, (OAt.at hv).wide q1 q2, fun j u hu => g3 _ u (q5 j u hu)⟩
def KidsO (w : World) (B n : Nat) (ks : List Flt) (rb : Option Nat) (xs : List Value) : Prop :=
 ∃ L R : Nat → Nat, (∀ i f, ks[i]? = some f → ∃ v, OAt w (L i) (R i) n f v ∧ B ≤ L i ∧ R i ≤ w.heap.size ∧ (∀ b, rb = some b → b < L i ∨ R i ≤ b) ∧ ∀ j u, v.cells[j]? = some u → xs[i * 9 + j]? = some u) ∧
  ∀ i j, i < j → j < ks.length → R i ≤ L j
section
variable {w w2 w3 : World} {B n k g : Nat} {ks : List Flt} {rb : Option Nat} {xs news : List Value} {f : Flt} {v : Value}
theorem KidsO.none (w : World) (B n : Nat) (ks : List Flt) (rb : Option Nat) (xs : List Value) : KidsO w B n (ks.take 0) rb xs :=
 ⟨fun _ => 0, fun _ => 0, fun i f h => by simp at h, fun i j _ h => by simp at h⟩
theorem KidsO.step (h : KidsO w B n (ks.take k) rb xs) (hx : xs.length = k * 9) (hk : ks[k]? = some f) (hb : Below w.heap.size w w2) (hf : OAt w2 w.heap.size w2.heap.size n f v) (hB : B ≤ w.heap.size)
  (hrb : ∀ b, rb = some b → b < w.heap.size) (hg : w2.grownBy w3 rb) (hat : rb = some g ∨ w2.heap.size ≤ g) (hnew : v.cells.toList = news) : KidsO w3 B n (ks.take (k + 1)) (some g) (xs ++ news) := by
 obtain ⟨L, R, h1, h2⟩ := h
 have hs := hb.size
 have hs3 := hg.size
 have hlt := (List.getElem?_eq_some_iff.1 hk).1
 refine ⟨fun i => if i < k then L i else w.heap.size, fun i => if i < k then R i else w2.heap.size, fun i f' hi => ?_, fun i j hij hj => ?_⟩
 ·have hik : i < k + 1 := by
   have := (List.getElem?_eq_some_iff.1 hi).1
   simp at this; omega
  rw [List.getElem?_take, if_pos hik] at hi
  by_cases hlt' : i < k
  ·simp only [if_pos hlt']
   obtain ⟨v', g1, g2, g3, g4, g5⟩ := h1 i f' (by rw [List.getElem?_take, if_pos hlt']; exact hi)
   refine ⟨v', g1.keep fun b hb1 hb2 => ?_, g2, by omega, fun b e => ?_, fun j u hu => ?_⟩
   ·rw [hg.block b (by omega) (fun e => by have := g4 b e.symm; omega), hb.block b (by omega)]
   ·simp only [Option.some.injEq] at e
    subst e
    rcases hat with e | e
    ·exact g4 _ e
    ·exact .inr (by omega)
   ·have := g5 j u hu
    rw [List.getElem?_append_left (List.getElem?_eq_some_iff.1 this).1]
    exact this
  ·simp only [if_neg hlt']
   have hik2 : i = k := by omega
   subst hik2
   rw [hk] at hi
   simp only [Option.some.injEq] at hi
   subst hi
   refine ⟨v, hf.keep fun b hb1 hb2 => hg.block b hb2 (fun e => by have := hrb b e.symm; omega), hB, hs3, fun b e => ?_, fun j u hu => ?_⟩
   ·simp only [Option.some.injEq] at e
    subst e
    rcases hat with e | e
    ·exact .inl (hrb _ e)
    ·exact .inr e
   ·rw [List.getElem?_append_right (by omega), ← hnew]
    simpa [hx] using hu
 ·simp only [List.length_take] at hj
  have hik : i < k := by omega
  simp only [if_pos hik]
  by_cases hjk : j < k
  ·simp only [if_pos hjk]
   exact h2 i j hij (by simp; omega)
  ·simp only [if_neg hjk]
   obtain ⟨v', _, _, g3, _⟩ := h1 i (ks[i]'(by omega)) (by rw [List.getElem?_take, if_pos hik]; exact List.getElem?_eq_getElem (by omega))
   exact g3
theorem KidsO.keep (h : KidsO w B n ks rb xs) (hs : w.heap.size ≤ w3.heap.size) (hk : ∀ b, B ≤ b → b < w.heap.size → rb ≠ some b → w3.heap[b]? = w.heap[b]?) : KidsO w3 B n ks rb xs := by
 obtain ⟨L, R, h1, h2⟩ := h
 refine ⟨L, R, fun i f hi => ?_, h2⟩
 obtain ⟨v, g1, g2, g3, g4, g5⟩ := h1 i f hi
 exact ⟨v, g1.keep fun b hb1 hb2 => hk b (by omega) (by omega) (fun e => by have := g4 _ e; omega), g2, by omega, g4, g5⟩
theorem own_filter {B0 : Nat} {k : Int} {ks : List Flt} {kc0 mc0 : Nat} {ds vl st : List UInt8} {ms : List (List UInt8)} {fn rl : List UInt8} {dn : Bool} {kv mv : Value} (hf : Fits k ks.length kc0 ds vl st ms mc0 fn rl) (hk : KidsO w B n ks kv.ownBlock xs) (hrow : w.ownsRow B0 26 9 kv ks.length xs) (hms : w.ownsRow B0 9 1 mv ms.length (ms.map txt))
  (hmb : ∀ b, mv.ownBlock = some b → b < B) (hB : B0 ≤ B) :
  OAt w B0 w.heap.size (n + 1) (.mk k ks ds vl st ms fn rl dn) (.agg #[.int .i8 k, kv, .string ⟨ds.toArray⟩, .string ⟨vl.toArray⟩, .string ⟨st.toArray⟩, mv, .string ⟨fn.toArray⟩, .string ⟨rl.toArray⟩, .bool dn]) := by
 obtain ⟨L, R, h1, h2⟩ := hk
 obtain ⟨KA, kc, rfl, k1, k2, _⟩ := own_slice hrow
 obtain ⟨MA, mc, rfl, m1, m2, _⟩ := own_slice hms
 refine ⟨KA, kc, MA, mc, xs, L, R, rfl, ⟨hf.k0, hf.k1, k1, k2, hf.kn1, hf.ds1, hf.vl1, hf.st1, m1, m2, hf.mn1, hf.ms1, hf.fn1, hf.rl1⟩, hrow, hms, fun b e => (hrow.lt b e).2, fun b e => (hms.lt b e).2, fun i f hi => ?_, h2⟩
 obtain ⟨v, g1, g2, g3, g4, g5⟩ := h1 i f hi
 exact ⟨v, g1, Nat.le_trans hB g2, g3, g4, fun b e => .inl (Nat.lt_of_lt_of_le (hmb b e) g2), g5⟩
end
end Go.Proofs.YtdkfmckbeagenaaGreatDoor

namespace Go.Proofs.YtdkfmckbeagenaaGreatDoor
open Go.RowKit Go.FltLaw Go.Lib Go.RankLaw

structure TwinO (w wr : World) (n k : Nat) (ks : List Flt) (box : Array Value) (kv mv : Value) (xs : List Value) (ms : List (List UInt8)) (B9 : Nat) : Prop where
 below : Below w.heap.size w wr
 fb : wr.heap[w.heap.size]? = some (.cells box 26 (0, 0))
 rb : wr.heap[w.heap.size + 1]? = some (.cells blankT 26 (0, 0))
 row : wr.ownsRow (w.heap.size + 2) 26 9 kv k xs
 kids : KidsO wr B9 n (ks.take k) kv.ownBlock xs
 b9 : w.heap.size + 2 ≤ B9 ∧ B9 ≤ wr.heap.size
 mb : ∀ b, mv.ownBlock = some b → b < B9
 mrow : wr.ownsRow (w.heap.size + 2) 9 1 mv ms.length (ms.map txt)
 apart : ∀ b, mv.ownBlock = some b → kv.ownBlock ≠ some b
theorem TwinO.size {w wr : World} {n k B9 : Nat} {ks : List Flt} {box : Array Value} {kv mv : Value} {xs : List Value} {ms : List (List UInt8)} (h : TwinO w wr n k ks box kv mv xs ms B9) : w.heap.size + 2 ≤ wr.heap.size := by
 have := (Array.getElem?_eq_some_iff.1 h.rb).1
 omega
theorem TwinO.step {w wr w2 w3 w4 : World} {n j B9 : Nat} {ks : List Flt} {box cs : Array Value} {kv mv : Value} {xs : List Value} {ms : List (List UInt8)} {f : Flt} {g cap : Nat} (h : TwinO w wr n j ks box kv mv xs ms B9) (hf : ks[j]? = some f) (hb : Below wr.heap.size wr w2)
  (hv : OAt w2 wr.heap.size w2.heap.size n f (.agg cs)) (h3 : w2.grownBy w3 none) (hs3 : w2.heap.size ≤ w3.heap.size) (hown : w4.ownsRow (w.heap.size + 2) 26 9 (.slice (some ⟨g, 0, none⟩) (j + 1) cap) (j + 1) (xs ++ cs.toList))
  (hg : w3.grownBy w4 kv.ownBlock) (hat : kv.ownBlock = some g ∨ g = w3.heap.size) : TwinO w w4 n (j + 1) ks box (.slice (some ⟨g, 0, none⟩) (j + 1) cap) mv (xs ++ cs.toList) ms B9 := by
 have hsz := h.size
 have hb2 := hb.size
 have hrb : ∀ b, kv.ownBlock = some b → w.heap.size + 2 ≤ b ∧ b < wr.heap.size := fun b e => h.row.lt b e
 have hmb : ∀ b, mv.ownBlock = some b → w.heap.size + 2 ≤ b ∧ b < wr.heap.size := fun b e => h.mrow.lt b e
 have h34 : w2.grownBy w4 kv.ownBlock := by
  refine World.grownBy.trans ⟨h3.os, h3.tape, h3.output, h3.size, fun k hk _ => h3.block k hk (by simp)⟩ hg
 have keep : ∀ b, b < w.heap.size + 2 → w4.heap[b]? = wr.heap[b]? := fun b hb' => by
  rw [h34.block b (by omega) (fun e => by have := hrb b e.symm; omega), hb.block b (by omega)]
 refine ⟨(h.below.trans (hb.mono (by omega))).grown h34 (by omega) (fun k e => by have := hrb k e; omega), ?_, ?_, hown, ?_, ⟨h.b9.1, by have := h.b9.2; have := h34.size; omega⟩, h.mb, ?_, ?_⟩
 ·rw [keep _ (by omega)]; exact h.fb
 ·rw [keep _ (by omega)]; exact h.rb
 ·exact h.kids.step (g := g) h.row.1 hf hb hv h.b9.2 (fun b e => (hrb b e).2) h34 (hat.imp id fun e => by omega) rfl
 ·refine (own_later h.mrow hb).kept h34 ?_
  cases hm : mv.ownBlock with
  | none => exact .inl rfl
  | some b => exact .inr fun e => h.apart b hm e.symm
 ·intro b hm e
  have := hmb b hm
  have hgb : g = b := by
   simp [Value.ownBlock] at e
   exact e
  subst hgb
  rcases hat with e | e
  ·exact h.apart g hm e
  ·omega
theorem twinO_start {w w5 w7 : World} {n : Nat} {ks : List Flt} {a0 a1 a2 a3 a4 a5 a6 a7 a8 v5 : Value} {ms : List (List UInt8)} (h5 : ((w.alloc (.cells #[a0, a1, a2, a3, a4, a5, a6, a7, a8] 26)).alloc (.cells blankT 26)).grownBy w5 (Value.slice none 0 0).ownBlock)
  (ho5 : w5.ownsRow (w.heap.size + 2) 9 1 v5 ms.length (ms.map txt)) (ho7 : w7.ownsRow (w.heap.size + 2) 26 9 (.slice (some ⟨(w5.setCell ⟨w.heap.size, 5, none⟩ v5).heap.size, 0, none⟩) 0 ks.length) 0 [])
  (h7 : (w5.setCell ⟨w.heap.size, 5, none⟩ v5).grownBy w7 none) :
  TwinO w w7 n 0 ks #[a0, a1, a2, a3, a4, v5, a6, a7, a8] (.slice (some ⟨w5.heap.size, 0, none⟩) 0 ks.length) v5 [] ms w5.heap.size := by
 have s5 := h5.size
 have s7 := h7.size
 have e6 : (w5.setCell ⟨w.heap.size, 5, none⟩ v5).heap.size = w5.heap.size := by simp [World.setCell]
 rw [e6] at s7 ho7
 simp at s5
 have f5 : w5.heap[w.heap.size]? = some (.cells #[a0, a1, a2, a3, a4, a5, a6, a7, a8] 26 (0, 0)) := by
  rw [h5.block _ (by simp; omega) (by intro e; cases e)]
  exact heap_alloc2_old w _ _
 have r5 : w5.heap[w.heap.size + 1]? = some (.cells blankT 26 (0, 0)) := by
  rw [h5.block _ (by simp) (by intro e; cases e)]
  exact heap_alloc2_new w _ _
 have ho6 : (w5.setCell ⟨w.heap.size, 5, none⟩ v5).ownsRow (w.heap.size + 2) 9 1 v5 ms.length (ms.map txt) := by
  exact own_blocks ho5 fun b hb => Below.heap_setCell _ _ _ _ (by simp; omega)
 refine ⟨?_, ?_, ?_, ho7, KidsO.none _ _ _ _ _ _, ⟨by omega, by omega⟩, fun b e => (ho5.lt b e).2, ho6.kept h7 (by cases v5.ownBlock <;> simp), ?_⟩
 ·exact (((((Below.refl w.heap.size w).alloc (Nat.le_refl _) _).alloc (by simp) _).grown h5 (by simp; omega) (fun k e => by cases e)).setCell (p := ⟨w.heap.size, 5, none⟩) (by simp) _).grown h7 (by rw [e6]; omega) (fun k e => by cases e)
 ·rw [h7.block _ (by rw [e6]; omega) (by simp)]
  have := heap_setCell_same w5 w.heap.size 5 _ _ v5 f5
  simpa using this
 ·rw [h7.block _ (by rw [e6]; omega) (by simp), Below.heap_setCell _ _ _ _ (by simp)]
  exact r5
 ·intro b hb e
  have := ho6.lt b hb
  simp [Value.ownBlock, World.setCell] at e this
  omega
def TwinEnd (n : Nat) (f : Flt) (w : World) (e : Ending) (w' : World) : Prop := ∃ v, e = .returned v ∧ OAt w' w.heap.size w'.heap.size n f v ∧ Below w.heap.size w w'
set_option maxHeartbeats 3200000 in
set_option maxRecDepth 100000 in
theorem twinO_p : ∀ (fuel : Nat) (f : Flt) (v : Value) (w : World) (B : Nat), FAt false w 0 B fuel f v → B ≤ w.heap.size →
  Calls Tryz.prog 42 #[v] w (TwinEnd fuel f w) := by
 intro fuel
 induction fuel with
 | zero => intro f v w B h; exact h.elim
 | succ fuel ih =>
  intro f v w B hF hB
  obtain ⟨k, ks, ds, vl, st, ms, fn, rl, dn⟩ := f
  obtain ⟨KA, kc, MA, mc, rfl, hfit, hmA, hkA, _⟩ := hF
  have IH := Lib.hid ih
  have HF := Lib.hid hfit
  have HM := Lib.hid hmA
  have HK := Lib.hid hkA
  have hkn := hfit.kn1
  have hkc := hfit.kc0
  have hmn := hfit.mn1
  obtain ⟨i0, hi, hz0, hz1, hz2⟩ := info_parts infoFT
  obtain ⟨j0, hjT, hy0, hy1, hy2⟩ := info_parts infoST
  have hb0 : ∀ o o', Below w.heap.size w ((w.alloc o).alloc o') := fun o o' => ((Below.refl _ w).alloc (Nat.le_refl _) o).alloc (by simp) o'
  have hrd := fun o o' => (rd_txts hmA).below ((hb0 o o').mono hB)
  have HRD := Lib.hid hrd
  have hfb := fun o' => heap_alloc2_old w (.cells #[.int .i8 k, .slice KA ks.length kc, .string ⟨ds.toArray⟩, .string ⟨vl.toArray⟩, .string ⟨st.toArray⟩, .slice MA ms.length mc, .string ⟨fn.toArray⟩, .string ⟨rl.toArray⟩, .bool dn] 26) o'
  have HFB := Lib.hid hfb
  clear ih hfit hmA hkA hb0 hrd hfb
  unfold flt
  go_enter Tryz.func42, Tryz.ntmps42
  go_upto_region 2 with (at_builtin; refine wpList_append_rd _ rfl (.const (.slice none 0 0)) (.tmp 7) _ rfl (w.heap.size + 2) 9 j0 _ 16 Tryz.underlying24 hjT hy0 hy1 hy2 rfl (.slice none 0 0) 0 [] rfl (World.ownsRow_nil _ _ _ _) B MA ms.length mc _ rfl (HRD.out _ _) (txts_one ms) (by unfold maxLen; omega) (by omega) (by simp <;> omega) ?_; intro v5 w5 hown0 hg5 hat5; have hown5 : w5.ownsRow (w.heap.size + 2) 9 1 v5 ms.length (ms.map txt) := (by simpa using hown0); have HO5 := Lib.hid hown5; have HG5 := Lib.hid hg5; have hs5 := hg5.size; have g5 := (hg5.block w.heap.size (by simp <;> omega) (by intro e; cases e)).trans (HFB.out _); have p1 : w5.cell? ⟨w.heap.size, 5, none⟩ = some (.slice MA ms.length mc) := (by simp [World.cell?, g5]); have p2 : w5.frozen? ⟨w.heap.size, 5, none⟩ = false := (by simp [World.frozen?, g5]); have p3 : w5.cell? ⟨w.heap.size, 1, none⟩ = some (.slice KA ks.length kc) := (by simp [World.cell?, g5]); obtain ⟨AM, capM, rfl, _, _, _⟩ := own_slice hown5; clear hown0 hown5 hg5 hat5 g5)
  go_wp2_with (refine wpList_make_own _ rfl (.const (.int .i64 0)) (.tmp 12) 23 rfl (w.heap.size + 2) 26 i0 _ 9 Tryz.underlying23 hi hz0 hz1 .i64 .i64 (ks.length : Int) ks.length rfl rfl rfl (by rw [hz2]; omega) (by unfold maxLen; omega) (by simp [World.setCell] at hs5 ⊢; omega) ?_; intro w7 ho7 hg7; have HT := Lib.hid (twinO_start (n := fuel) (ks := ks) HG5.out HO5.out ho7 hg7); have c1 : w7.cell? ⟨w.heap.size, 1, none⟩ = some (.slice KA ks.length kc) := (by simp [World.cell?, HT.out.fb]); clear ho7 hg7)
  go_loopw [3, 17] (fun kv i wr => ∃ (j : Nat) (xs : List Value), j ≤ ks.length ∧ i = .int .i64 j ∧ TwinO w wr fuel j ks #[.int .i8 k, .slice KA ks.length kc, .string ⟨ds.toArray⟩, .string ⟨vl.toArray⟩, .string ⟨st.toArray⟩, .slice AM ms.length capM, .string ⟨fn.toArray⟩, .string ⟨rl.toArray⟩, .bool dn] kv (.slice AM ms.length capM) xs ms w5.heap.size) (fun _ i _ => ks.length - (RowKit.intOf i).toNat)
  case atStart => exact ⟨0, [], Nat.zero_le _, rfl, HT.out⟩
  case round =>
   clear c1 p1 p2 p3 HT hs5
   obtain ⟨j, xs, hj, rfl, hL⟩ := hrel
   have HL := Lib.hid hL
   have hsz := hL.size
   have c1 : wr.cell? ⟨w.heap.size, 1, none⟩ = some (.slice KA ks.length kc) := by simp [World.cell?, hL.fb]
   by_cases hlt : j < ks.length
   ·obtain ⟨ad, rfl, _, hadB, hel⟩ := HK.out (by omega)
    have hke := List.getElem?_eq_getElem hlt
    generalize ks[j] = q at hke
    obtain ⟨fv, hfv, hcells⟩ := hel j _ hke
    obtain ⟨kq, Aq, nq, cq, q2, q3, q4, Aq5, nq5, cq5, q6, q7, xq, rfl⟩ := (FAt.formF hfv)
    have hfv' : ∀ o, FAt false (wr.alloc o) 0 B fuel q (.agg #[.int .i8 kq, .slice Aq nq cq, .string ⟨q2.toArray⟩, .string ⟨q3.toArray⟩, .string ⟨q4.toArray⟩, .slice Aq5 nq5 cq5, .string ⟨q6.toArray⟩, .string ⟨q7.toArray⟩, .bool xq]) := fun o => hfv.below ((hL.below.mono hB).alloc (by omega) o)
    have HFV := Lib.hid hfv'
    obtain ⟨l0, l1, l2, l3, l4, l5, l6, l7, l8⟩ := nine_at (w := wr) (m := j * 9) (fun q u hu => ((hL.below.mono hB).cell (p := ad.add (j * 9 + q)) (by rw [RankLaw.add_block]; exact hadB)).trans (hcells q u hu))
    have HKE := Lib.hid hke
    have HRow := Lib.hid hL.row
    clear hel hfv hcells hL hfv' hke
    go_wp2_with (first
     | (go_at_call 42; (with_reducible refine (IH.out q _ _ B (HFV.out _) (by simp; omega)).mono ?_); rintro e w2 ⟨v2, rfl, hv2, hb2⟩; obtain ⟨k2, A2, n2, c2, s2, s3, s4, A5, n5, c5', s6, s7, x8, rfl⟩ := (FAt.formF hv2.at); have HV2 := Lib.hid (hv2.wide (lo' := wr.heap.size) (by simp) (Nat.le_refl _)); have hb2' := ((Below.refl wr.heap.size wr).alloc (Nat.le_refl _) _).trans (hb2.mono (by simp)); have HB2 := Lib.hid hb2'; have hsz2 := hb2'.size; clear hv2 hb2 hb2')
     | (at_builtin; refine wpList_append_lies _ rfl (.tmp 21) (.tmp 24) _ rfl (w.heap.size + 2) 26 i0 _ 9 144 Tryz.underlying23 hi hz0 hz1 hz2 rfl (by decide) u3 j xs rfl ((own_later HRow.out HB2.out).alloc _) ⟨w2.heap.size, 0, none⟩ 1 1 [.int .i8 k2, .slice A2 n2 c2, .string ⟨s2.toArray⟩, .string ⟨s3.toArray⟩, .string ⟨s4.toArray⟩, .slice A5 n5 c5', .string ⟨s6.toArray⟩, .string ⟨s7.toArray⟩, .bool x8] rfl rfl (news_new w2 #[.int .i8 k2, .slice A2 n2 c2, .string ⟨s2.toArray⟩, .string ⟨s3.toArray⟩, .string ⟨s4.toArray⟩, .slice A5 n5 c5', .string ⟨s6.toArray⟩, .string ⟨s7.toArray⟩, .bool x8] _ rfl) (nine_one _ _ _ _ _ _ _ _ _ _ _ _ _) (by decide) (by unfold maxLen; omega) (by omega) (by simp; omega) _ rfl ?_; intro g cap w4 hown4 hg4 hat4 hlt4; have HO4 := Lib.hid hown4; have HG4 := Lib.hid hg4; have HAT4 := Lib.hid hat4; clear hown4 hg4 hat4))
    go_round
    case rel => exact ⟨j + 1, _, by omega, by go_num, HL.out.step HKE.out HB2.out HV2.out (World.grownBy_alloc _ _ _) (by simp) HO4.out HG4.out (HAT4.out.imp id fun e => by simpa using e)⟩
    case measure => simp [RowKit.intOf]; omega
   ·have ej : j = ks.length := by omega
    subst ej
    obtain ⟨AK, capK, rfl, _, _, _⟩ := own_slice hL.row
    have hbox : (wr.setCell ⟨w.heap.size, 1, none⟩ (.slice AK ks.length capK)).heap[w.heap.size]? = some (.cells #[.int .i8 k, .slice AK ks.length capK, .string ⟨ds.toArray⟩, .string ⟨vl.toArray⟩, .string ⟨st.toArray⟩, .slice AM ms.length capM, .string ⟨fn.toArray⟩, .string ⟨rl.toArray⟩, .bool dn] 26 (0, 0)) := by
     have := heap_setCell_same wr w.heap.size 1 _ _ (.slice AK ks.length capK) hL.fb
     simpa using this
    have hbl : (wr.setCell ⟨w.heap.size, 1, none⟩ (.slice AK ks.length capK)).heap[w.heap.size + 1]? = some (.cells blankT 26 (0, 0)) := by
     rw [Below.heap_setCell _ _ _ _ (by simp)]; exact hL.rb
    have HBOX := Lib.hid hbox
    have HBL := Lib.hid hbl
    have c2 : wr.frozen? ⟨w.heap.size, 1, none⟩ = false := by simp [World.frozen?, hL.fb]
    clear hbox hbl hL
    go_wp2_with (first
     | (refine wpList_load_row rfl 26 (.tmp 1) rfl w.heap.size rfl 26 #[.int .i8 k, .slice AK ks.length capK, .string ⟨ds.toArray⟩, .string ⟨vl.toArray⟩, .string ⟨st.toArray⟩, .slice AM ms.length capM, .string ⟨fn.toArray⟩, .string ⟨rl.toArray⟩, .bool dn] (0, 0) _ HBOX.out Tryz.underlying26 rfl (by kernel_rfl) ?_)
     | (refine wpList_store_row rfl 26 (.tmp 2) (.tmp 29) rfl (w.heap.size + 1) #[.int .i8 k, .slice AK ks.length capK, .string ⟨ds.toArray⟩, .string ⟨vl.toArray⟩, .string ⟨st.toArray⟩, .slice AM ms.length capM, .string ⟨fn.toArray⟩, .string ⟨rl.toArray⟩, .bool dn] rfl rfl 26 blankT HBL.out (by kernel_rfl) rfl (by simp [Value.oneCell']) ?_))
    (try simp only [Exit.inBlock, Exit.then])
    refine bodyPost_ret (results_cell_row rfl _ _ (w.heap.size + 1) 26 _ (0, 0) _ rfl (setRow_heap _ _ _ _ _ _ HBL.out) Tryz.underlying26 rfl (by kernel_rfl)) rfl ?_
    have far : ∀ b, w.heap.size + 2 ≤ b → (((wr.setCell ⟨w.heap.size, 1, none⟩ (.slice AK ks.length capK)).setRow (w.heap.size + 1) #[.int .i8 k, .slice AK ks.length capK, .string ⟨ds.toArray⟩, .string ⟨vl.toArray⟩, .string ⟨st.toArray⟩, .slice AM ms.length capM, .string ⟨fn.toArray⟩, .string ⟨rl.toArray⟩, .bool dn]).heap[b]? = wr.heap[b]?) := fun b hb => by
     rw [setRow_other _ _ _ _ (by omega), Below.heap_setCell _ _ _ _ (by simp; omega)]
    have hsf : ((wr.setCell ⟨w.heap.size, 1, none⟩ (.slice AK ks.length capK)).setRow (w.heap.size + 1) #[.int .i8 k, .slice AK ks.length capK, .string ⟨ds.toArray⟩, .string ⟨vl.toArray⟩, .string ⟨st.toArray⟩, .slice AM ms.length capM, .string ⟨fn.toArray⟩, .string ⟨rl.toArray⟩, .bool dn]).heap.size = wr.heap.size := by simp [World.setCell]
    have hkids := HL.out.kids
    rw [List.take_length] at hkids
    refine ⟨_, rfl, ((own_filter HF.out (hkids.keep (by omega) fun b hb _ _ => far b (by have := HL.out.b9.1; omega)) (own_blocks HL.out.row far) (own_blocks HL.out.mrow far) HL.out.mb HL.out.b9.1).wide (by omega) (Nat.le_refl _)), ?_⟩
    exact (HL.out.below.setCell (p := ⟨w.heap.size, 1, none⟩) (by simp) _).trans ⟨rfl, rfl, rfl, by simp, fun b hb => setRow_other _ _ _ _ (by omega)⟩
end Go.Proofs.YtdkfmckbeagenaaGreatDoor

namespace Go.Proofs.YtdkfmckbeagenaaGreatDoor
open Go.RowKit Go.FltLaw Go.Lib Go.RankLaw

set_option maxHeartbeats 1600000 in
set_option maxRecDepth 100000 in
theorem twinO_may (fuel : Nat) (f : Flt) (v : Value) (w : World) (B : Nat) (hF : FAt false w 0 B fuel f v) (hB : B ≤ w.heap.size) (hv : MaxVar w) (hM : 1 < w.heap.size) (hm : FltLaw.may f) :
  Calls Tryz.prog 24 #[v] w (TwinEnd fuel f w) := by
 have HF := Lib.hid hF
 have hb0 : ∀ o o', Below w.heap.size w ((w.alloc o).alloc o') := fun o o' => ((Below.refl _ w).alloc (Nat.le_refl _) o).alloc (by simp) o'
 have HB0 := Lib.hid hb0
 have hd : decide (FltLaw.may f) = true := by simpa using hm
 have HD := Lib.hid hd
 have HV := Lib.hid hv
 obtain ⟨k2, A2, m2, c2', s2, s3, s4, A5, m5, q5, s6, s7, x8, rfl⟩ := (FAt.formF hF)
 have hfb := fun o' => heap_alloc2_old w (.cells #[.int .i8 k2, .slice A2 m2 c2', .string ⟨s2.toArray⟩, .string ⟨s3.toArray⟩, .string ⟨s4.toArray⟩, .slice A5 m5 q5, .string ⟨s6.toArray⟩, .string ⟨s7.toArray⟩, .bool x8] 26) o'
 have hrb := fun o => heap_alloc2_new w o (.cells blankT 26)
 have HFB := Lib.hid hfb
 have HRB := Lib.hid hrb
 clear hF hb0 hd hv hfb hrb hm
 go_enter Tryz.func24, Tryz.ntmps24
 go_wp2_with (first
  | (go_at_call 41; (with_reducible refine (may_at true fuel B f _ _ (HF.out.below ((HB0.out _ _).mono hB)) (by simp <;> omega) (HV.out.below (HB0.out _ _) hM) (by simp <;> omega) HD.out).mono ?_); rintro e w3 ⟨rfl, hb3⟩; have g1 := (hb3.block w.heap.size (by simp <;> omega)).trans (HFB.out _); have g2 := (hb3.block (w.heap.size + 1) (by simp <;> omega)).trans (HRB.out _); have G2 := Lib.hid g2; obtain ⟨c0, c1, c2, c3, c4, c5, c6, c7, c8⟩ : w3.cell? ⟨w.heap.size, 0, none⟩ = some (.int .i8 k2) ∧ w3.cell? ⟨w.heap.size, 1, none⟩ = some (.slice A2 m2 c2') ∧ w3.cell? ⟨w.heap.size, 2, none⟩ = some (.string ⟨s2.toArray⟩) ∧ w3.cell? ⟨w.heap.size, 3, none⟩ = some (.string ⟨s3.toArray⟩) ∧ w3.cell? ⟨w.heap.size, 4, none⟩ = some (.string ⟨s4.toArray⟩) ∧ w3.cell? ⟨w.heap.size, 5, none⟩ = some (.slice A5 m5 q5) ∧ w3.cell? ⟨w.heap.size, 6, none⟩ = some (.string ⟨s6.toArray⟩) ∧ w3.cell? ⟨w.heap.size, 7, none⟩ = some (.string ⟨s7.toArray⟩) ∧ w3.cell? ⟨w.heap.size, 8, none⟩ = some (.bool x8) := (by simp [World.cell?, g1]); have hb3' := (HB0.out _ _).trans (hb3.mono (by simp <;> omega)); have HB3 := Lib.hid hb3'; have hz3 : w.heap.size + 2 ≤ w3.heap.size := (by have := hb3.size; simp at this; omega); clear hb3 hb3' g1 g2)
  | (go_at_call 42; (with_reducible refine (twinO_p fuel f _ w3 B (HF.out.below (HB3.out.mono hB)) (by omega)).mono ?_); rintro e w4 ⟨v4, rfl, hv4, hb4⟩; obtain ⟨k4, A4, n4, d4, r2, r3, r4, A6, n6, d6, r6, r7, x4, rfl⟩ := (FAt.formF hv4.at); have HV4 := Lib.hid hv4; have HB4 := Lib.hid hb4; have hz4 := hb4.size; have G4 := Lib.hid ((hb4.block (w.heap.size + 1) (by omega)).trans G2.out); clear hv4 hb4)
  | (refine wpList_store_row rfl 26 (.tmp 2) (.tmp 8) rfl (w.heap.size + 1) #[.int .i8 k4, .slice A4 n4 d4, .string ⟨r2.toArray⟩, .string ⟨r3.toArray⟩, .string ⟨r4.toArray⟩, .slice A6 n6 d6, .string ⟨r6.toArray⟩, .string ⟨r7.toArray⟩, .bool x4] rfl rfl 26 blankT G4.out (by kernel_rfl) rfl (by simp [Value.oneCell']) ?_))
 (try simp only [Exit.inBlock, Exit.then])
 refine bodyPost_ret (results_cell_row rfl _ _ (w.heap.size + 1) 26 _ (0, 0) _ rfl (setRow_heap _ _ _ _ _ _ G4.out) Tryz.underlying26 rfl (by kernel_rfl)) rfl ?_
 refine ⟨_, rfl, ?_, (HB3.out.trans (HB4.out.mono (by omega))).trans ⟨rfl, rfl, rfl, by simp, fun b hb => setRow_other _ _ _ _ (by omega)⟩⟩
 refine (HV4.out.keep (fun b hb _ => setRow_other _ _ _ _ (by omega))).wide (by omega) (by simp)
end Go.Proofs.YtdkfmckbeagenaaGreatDoor

namespace Go.Proofs.YtdkfmckbeagenaaGreatDoor
open Go.RowKit Go.FltLaw Go.Lib Go.RankLaw

def NormalO (n : Nat) (f : Flt) (w : World) (e : Ending) (w' : World) : Prop :=
 ∃ v', e = .returned (.tuple #[v', .int .i64 (check f).1]) ∧ (FltLaw.may f → OAt w' w.heap.size w'.heap.size (n + 1) (form f false) v') ∧ (¬ FltLaw.may f → v' = .agg zeroF9) ∧ Below w.heap.size w w'
set_option maxHeartbeats 1600000 in
set_option maxRecDepth 100000 in
theorem normalO_p (fuel : Nat) (f : Flt) (v : Value) (w : World) (B : Nat) (hF : FAt false w 0 B fuel f v) (hB : B ≤ w.heap.size) (hv : MaxVar w) (hM : 1 < w.heap.size) :
  Calls Tryz.prog 10 #[v] w (NormalO fuel f w) := by
 have HF := Lib.hid hF
 have hb0 : ∀ o o', Below w.heap.size w ((w.alloc o).alloc o') := fun o o' => ((Below.refl _ w).alloc (Nat.le_refl _) o).alloc (by simp) o'
 have HB0 := Lib.hid hb0
 have HV := Lib.hid hv
 obtain ⟨k2, A2, m2, c2', s2, s3, s4, A5, m5, q5, s6, s7, x8, rfl⟩ := (FAt.formF hF)
 have hfb := fun o' => heap_alloc2_old w (.cells #[.int .i8 k2, .slice A2 m2 c2', .string ⟨s2.toArray⟩, .string ⟨s3.toArray⟩, .string ⟨s4.toArray⟩, .slice A5 m5 q5, .string ⟨s6.toArray⟩, .string ⟨s7.toArray⟩, .bool x8] 26) o'
 have hrb := fun o => heap_alloc2_new w o (.cells zeroF9 26)
 have HFB := Lib.hid hfb
 have HRB := Lib.hid hrb
 clear hF hb0 hv hfb hrb
 by_cases hm : FltLaw.may f
 ·have hc0 := may_check0 hm
  have HMY := Lib.hid hm
  obtain ⟨hfine, hdp, hsz⟩ := may_iff.1 hm
  have HFI := Lib.hid hfine
  obtain ⟨g1, g2, g3⟩ := grown_char hfine
  have HG1 := Lib.hid g1
  clear hm hfine g1
  go_enter Tryz.func10, Tryz.ntmps10
  go_wp2_with (first
   | (go_at_call 17; (with_reducible refine (check_p false 0 B fuel f _ _ (HF.out.below ((HB0.out _ _).mono hB)) (by simp <;> omega) (HV.out.below (HB0.out _ _) hM) (by simp <;> omega)).mono ?_); rintro e w3 ⟨rfl, hb3⟩; rw [hc0]; have h1 := (hb3.block w.heap.size (by simp <;> omega)).trans (HFB.out _); have HR3 := Lib.hid ((hb3.block (w.heap.size + 1) (by simp <;> omega)).trans (HRB.out _)); obtain ⟨c0, c1, c2, c3, c4, c5, c6, c7, c8⟩ := nine_heap h1; have hb3' := (HB0.out _ _).trans (hb3.mono (by simp <;> omega)); have HB3 := Lib.hid hb3'; have hz3 : w.heap.size + 2 ≤ w3.heap.size := (by have := hb3.size; simp at this; omega); clear hb3 hb3' h1)
   | (go_at_call 26; (with_reducible refine (grown_p fuel f _ w3 (Itv 0 B) (FAtS.of (HF.out.below (HB3.out.mono hB))) (fun b hb => by have := itv_lt hb; omega) HFI.out).mono ?_); rintro e w4 ⟨v4, rfl, hn4, hb4⟩; have HN4 := Lib.hid hn4; have HB4 := Lib.hid hb4; have hz4 := hb4.size; clear hn4 hb4)
   | (go_at_call 25; (with_reducible refine (laid_p (fuel + 1) (FltLaw.grown f) _ w4 _ HN4.out (fun b hb => by rcases hb with hb | hb; have := itv_lt hb; omega; exact hb.2) HG1.out (by omega) (by omega) ((HV.out.below HB3.out hM).below HB4.out (by omega)) (by omega)).mono ?_); rintro e w5 ⟨v5, rfl, hf5, hb5⟩; rw [normal_same HMY.out] at hf5; have hz5 := hb5.size; have HF5 := Lib.hid (FAtS.to (lo := 0) (hi := w5.heap.size) (fun b hb => ⟨Nat.zero_le _, by rcases hb with (hb | hb) | hb; have := itv_lt hb; omega; have := itv_lt hb; omega; exact hb.2⟩) hf5); have HB5 := Lib.hid hb5; clear hf5 hb5)
   | (go_at_call 24; (with_reducible refine (twinO_may (fuel + 1) (form f false) _ w5 w5.heap.size HF5.out (Nat.le_refl _) (((HV.out.below HB3.out hM).below HB4.out (by omega)).below HB5.out (by omega)) (by omega) (may_form HMY.out).1).mono ?_); rintro e w6 ⟨v6, rfl, hf6, hb6⟩; have hz6 := hb6.size; obtain ⟨k4, A4, n4, d4, r2, r3, r4, A6, n6, d6, r6, r7, x4, rfl⟩ := (FAt.formF hf6.at); have HF6 := Lib.hid hf6; have HB6 := Lib.hid hb6; have HR6 := Lib.hid ((hb6.block (w.heap.size + 1) (by omega)).trans ((HB5.out.block (w.heap.size + 1) (by omega)).trans ((HB4.out.block (w.heap.size + 1) (by omega)).trans HR3.out))); clear hf6 hb6)
   | (refine wpList_store_row rfl 26 (.tmp 2) (.tmp 20) rfl (w.heap.size + 1) #[.int .i8 k4, .slice A4 n4 d4, .string ⟨r2.toArray⟩, .string ⟨r3.toArray⟩, .string ⟨r4.toArray⟩, .slice A6 n6 d6, .string ⟨r6.toArray⟩, .string ⟨r7.toArray⟩, .bool x4] rfl rfl 26 zeroF9 HR6.out (by kernel_rfl) rfl (by simp [Value.oneCell']) ?_))
  (try simp only [Exit.inBlock, Exit.then])
  refine bodyPost_ret (results_ct16 rfl _ _ (w.heap.size + 1) 26 _ (0, 0) _ rfl (setRow_heap _ _ _ _ _ _ HR6.out) Tryz.underlying26 rfl (by kernel_rfl)) rfl ?_
  refine ⟨_, by rw [hc0]; rfl, fun _ => ?_, fun h => absurd HMY.out h, (((HB3.out.trans (HB4.out.mono (by omega))).trans (HB5.out.mono (by omega))).trans (HB6.out.mono (by omega))).trans ⟨rfl, rfl, rfl, by simp, fun b hb => setRow_other _ _ _ _ (by omega)⟩⟩
  refine (HF6.out.keep (fun b hb _ => setRow_other _ _ _ _ (by omega))).wide (by omega) (by simp)
 ·have hc0 : (check f).1 ≠ 0 := fun h => hm (check_ok.1 h)
  have HMY := Lib.hid hm
  generalize hcc : check f = cc at hc0
  obtain ⟨c, n, d⟩ := cc
  have HCC := Lib.hid hcc
  have hc1 : ¬ c = 0 := hc0
  clear hm hc0 hcc
  go_enter Tryz.func10, Tryz.ntmps10
  go_wp2_with (first
   | (go_at_call 17; (with_reducible refine (check_p false 0 B fuel f _ _ (HF.out.below ((HB0.out _ _).mono hB)) (by simp <;> omega) (HV.out.below (HB0.out _ _) hM) (by simp <;> omega)).mono ?_); rintro e w3 ⟨rfl, hb3⟩; rw [HCC.out]; have HR3 := Lib.hid ((hb3.block (w.heap.size + 1) (by simp <;> omega)).trans (HRB.out _)); have hb3' := (HB0.out _ _).trans (hb3.mono (by simp <;> omega)); have HB3 := Lib.hid hb3'; clear hb3 hb3')
   | (refine wpList_store_row rfl 26 (.tmp 2) (.tmp 15) rfl (w.heap.size + 1) zeroF9 rfl rfl 26 zeroF9 HR3.out (by kernel_rfl) rfl (by simp [Value.oneCell']) ?_))
  (try simp only [Exit.inBlock, Exit.then])
  refine bodyPost_ret (results_ct16 rfl _ _ (w.heap.size + 1) 26 _ (0, 0) _ rfl (setRow_heap _ _ _ _ _ _ HR3.out) Tryz.underlying26 rfl (by kernel_rfl)) rfl ?_
  exact ⟨_, by rw [HCC.out]; rfl, fun h => absurd h HMY.out, fun _ => rfl, HB3.out.trans ⟨rfl, rfl, rfl, by simp, fun b hb => setRow_other _ _ _ _ (by omega)⟩⟩
end Go.Proofs.YtdkfmckbeagenaaGreatDoor

namespace Go.FltLaw
mutual
def tot : Flt → Nat
 | .mk _ ks _ _ _ ms _ _ _ => tots ks + ks.length + ms.length + 18
def tots : List Flt → Nat
 | [] => 0
 | f :: fs => tot f + tots fs
end
theorem tots_app : ∀ l m : List Flt, tots (l ++ m) = tots l + tots m
 | [], m => by simp [tots]
 | x :: l, m => by simp only [List.cons_append, tots, tots_app l m]; omega
theorem tots_step {l : List Flt} {j : Nat} {x : Flt} (h : l[j]? = some x) : tots (l.take (j + 1)) = tots (l.take j) + tot x := by
 rw [List.take_add_one, h, tots_app]
 simp [tots]
theorem tots_take (l : List Flt) (j : Nat) : tots (l.take j) ≤ tots l := by
 conv => rhs; rw [← List.take_append_drop j l, tots_app]
 omega
end Go.FltLaw
namespace Go.Proofs.YtdkfmckbeagenaaGreatDoor
open Go.RowKit Go.FltLaw Go.Lib Go.RankLaw

structure Spared (lo hi : Nat) (w w' : World) : Prop where
 os : w'.os = w.os
 tape : w'.tape = w.tape
 output : w'.output = w.output
 size : w.heap.size ≤ w'.heap.size
 block : ∀ b, b < w.heap.size → (b < lo ∨ hi ≤ b) → w'.heap[b]? = w.heap[b]?
section
variable {lo hi L R : Nat} {a b c w : World}
theorem Spared.refl (lo hi : Nat) (w : World) : Spared lo hi w w := ⟨rfl, rfl, rfl, Nat.le_refl _, fun _ _ _ => rfl⟩
theorem Spared.trans (h : Spared lo hi a b) (k : Spared lo hi b c) : Spared lo hi a c :=
 ⟨k.os.trans h.os, k.tape.trans h.tape, k.output.trans h.output, Nat.le_trans h.size k.size, fun i h1 h2 => (k.block i (Nat.lt_of_lt_of_le h1 h.size) h2).trans (h.block i h1 h2)⟩
theorem Spared.below (h : Below a.heap.size a b) : Spared lo hi a b := ⟨h.os, h.tape, h.output, h.size, fun i h1 _ => h.block i h1⟩
theorem Spared.mono (h : Spared L R a b) (h1 : lo ≤ L) (h2 : R ≤ hi) : Spared lo hi a b := ⟨h.os, h.tape, h.output, h.size, fun i hi' h3 => h.block i hi' (by omega)⟩
theorem Spared.grown {row : Option Nat} (h : Spared lo hi w a) (g : a.grownBy b row) (hr : ∀ k, row = some k → (lo ≤ k ∧ k < hi) ∨ w.heap.size ≤ k) : Spared lo hi w b :=
 ⟨g.os.trans h.os, g.tape.trans h.tape, g.output.trans h.output, Nat.le_trans h.size g.size, fun i h1 h2 => (g.block i (Nat.lt_of_lt_of_le h1 h.size) (fun e => by have := hr i e.symm; omega)).trans (h.block i h1 h2)⟩
theorem Spared.kept {B : Nat} (h : Spared lo hi a b) (h1 : B ≤ lo) (h2 : B ≤ a.heap.size) : Below B a b := ⟨h.os, h.tape, h.output, h.size, fun i h3 => h.block i (by omega) (by omega)⟩
end
theorem own_blk {w : World} {B b n : Nat} {e : TypeId} {size : Nat} {v : Value} {xs : List Value} (h : w.ownsRow B e size v n xs) (hb : v.ownBlock = some b) : ∃ cur, w.heap[b]? = some (.cells cur e (0, 0)) := by
 rcases h.2 with ⟨hv, _⟩ | ⟨g', cap, cur, hv, _, hg, _⟩
 ·rw [hv] at hb; cases hb
 ·rw [hv] at hb
  simp only [Value.ownBlock, Option.some.injEq] at hb
  subst hb
  exact ⟨cur, hg⟩
theorem own_apart {w : World} {B B' b n n' : Nat} {e e' : TypeId} {size size' : Nat} {v v' : Value} {xs xs' : List Value} (h : w.ownsRow B e size v n xs) (h' : w.ownsRow B' e' size' v' n' xs') (hne : e ≠ e') (hb : v.ownBlock = some b) : v'.ownBlock ≠ some b := by
 intro e2
 obtain ⟨cur, h1⟩ := own_blk h hb
 obtain ⟨cur', h2⟩ := own_blk h' e2
 rw [h1] at h2
 simp only [Option.some.injEq, Obj.cells.injEq] at h2
 exact hne h2.2.1
theorem own_cells {B g c m : Nat} {e : TypeId} {size : Nat} : ∀ (vs : List Value) (o : Nat) {w : World} {xs : List Value}, w.ownsRow B e size (.slice (some ⟨g, 0, none⟩) m c) m xs →
  ∃ xs', (w.setCells g o vs).ownsRow B e size (.slice (some ⟨g, 0, none⟩) m c) m xs' ∧ (∀ i, o + vs.length ≤ i → xs'[i]? = xs[i]?) ∧ w.grownBy (w.setCells g o vs) (some g)
 | [], o, w, xs, h => ⟨xs, h, fun _ _ => rfl, ⟨rfl, rfl, rfl, Nat.le_refl _, fun _ _ _ => rfl⟩⟩
 | u :: vs, o, w, xs, h => by
  obtain ⟨h1, h2⟩ := h.stored o u
  obtain ⟨xs', g1, g2, g3⟩ := own_cells vs (o + 1) h1
  refine ⟨xs', g1, fun i hi => ?_, h2.trans g3⟩
  simp only [List.length_cons] at hi
  rw [g2 i (by omega), List.getElem?_set_ne (by omega)]
structure Spl (w wr : World) (lo hi n : Nat) (ks : List Flt) (KA : Option Addr) (kc : Nat) (MA : Option Addr) (mc M : Nat) (box : Array Value) (L R : Nat → Nat) (j : Nat) : Prop where
 sp : Spared lo hi w wr
 box : wr.heap[w.heap.size]? = some (.cells box 26 (0, 0))
 row : ∃ ys, wr.ownsRow lo 26 9 (.slice KA ks.length kc) ks.length ys ∧ ∀ i f, j ≤ i → ks[i]? = some f → ∃ v, OAt wr (L i) (R i) n f v ∧ ∀ q u, v.cells[q]? = some u → ys[i * 9 + q]? = some u
 mrow : ∃ zs, wr.ownsRow lo 9 1 (.slice MA M mc) M zs
structure SplFix (w : World) (lo hi : Nat) (ks : List Flt) (KA : Option Addr) (kc : Nat) (MA : Option Addr) (mc M : Nat) (L R : Nat → Nat) : Prop where
 kb : ∀ b, (Value.slice KA ks.length kc).ownBlock = some b → lo ≤ b ∧ b < hi
 mb : ∀ b, (Value.slice MA M mc).ownBlock = some b → lo ≤ b ∧ b < hi
 hi1 : hi ≤ w.heap.size
 lr : ∀ i, i < ks.length → lo ≤ L i ∧ R i ≤ hi ∧ (∀ b, (Value.slice KA ks.length kc).ownBlock = some b → b < L i ∨ R i ≤ b) ∧ (∀ b, (Value.slice MA M mc).ownBlock = some b → b < L i ∨ R i ≤ b)
 ord : ∀ i j, i < j → j < ks.length → R i ≤ L j
section
variable {w wr w2 : World} {lo hi n j kc mc M : Nat} {ks : List Flt} {KA MA : Option Addr} {box : Array Value} {L R : Nat → Nat} {q : Flt}
theorem Spl.size (h : Spl w wr lo hi n ks KA kc MA mc M box L R j) : w.heap.size + 1 ≤ wr.heap.size := by
 have := (Array.getElem?_eq_some_iff.1 h.box).1
 omega
theorem Spl.kid (h : Spl w wr lo hi n ks KA kc MA mc M box L R j) (hq : ks[j]? = some q) : ∃ (g : Nat) (v : Value), KA = some ⟨g, 0, none⟩ ∧ OAt wr (L j) (R j) n q v ∧ ∀ i u, v.cells[i]? = some u → wr.cell? ⟨g, j * 9 + i, none⟩ = some u := by
 obtain ⟨ys, hy, hk⟩ := h.row
 have hlt := (List.getElem?_eq_some_iff.1 hq).1
 obtain ⟨g, rfl, _, _, h3⟩ := slice_at hy (by omega) rfl
 obtain ⟨v, hv, hc⟩ := hk j q (Nat.le_refl _) hq
 exact ⟨g, v, rfl, hv, fun i u hu => row_cell hy (hc i u hu)⟩
theorem Spl.mid (h : Spl w wr lo hi n ks KA kc MA mc M box L R j) (hf : SplFix w lo hi ks KA kc MA mc M L R) (hj : j < ks.length) (hs : Spared (L j) (R j) wr w2) : Spl w w2 lo hi n ks KA kc MA mc M box L R (j + 1) := by
 obtain ⟨ys, hy, hk⟩ := h.row
 obtain ⟨zs, hz⟩ := h.mrow
 obtain ⟨l1, l2, l3, l4⟩ := hf.lr j hj
 have hsz := h.size
 have hh := hf.hi1
 refine ⟨h.sp.trans (hs.mono l1 l2), (hs.block _ (by omega) (by omega)).trans h.box, ⟨ys, own_at hy (Nat.le_refl _) (fun b _ e => hs.block b (by have := hf.kb b e; omega) (l3 b e)), fun i f hi hif => ?_⟩, ⟨zs, own_at hz (Nat.le_refl _) (fun b _ e => hs.block b (by have := hf.mb b e; omega) (l4 b e))⟩⟩
 obtain ⟨v, hv, hc⟩ := hk i f (by omega) hif
 have hil := (List.getElem?_eq_some_iff.1 hif).1
 have ho := hf.ord j i (by omega) hil
 obtain ⟨_, r2, _, _⟩ := hf.lr i hil
 exact ⟨v, hv.keep fun b hb1 hb2 => hs.block b (by omega) (by omega), hc⟩
theorem Spl.over {g : Nat} (h : Spl w wr lo hi n ks (some ⟨g, 0, none⟩) kc MA mc M box L R (j + 1)) (hf : SplFix w lo hi ks (some ⟨g, 0, none⟩) kc MA mc M L R) (vs : List Value) (hvs : vs.length = 9) : Spl w (wr.setCells g (j * 9) vs) lo hi n ks (some ⟨g, 0, none⟩) kc MA mc M box L R (j + 1) := by
 obtain ⟨ys, hy, hk⟩ := h.row
 obtain ⟨zs, hz⟩ := h.mrow
 obtain ⟨ys', hy', hk', hg⟩ := own_cells vs (j * 9) hy
 have hb := hf.kb g rfl
 have hsz := h.size
 have hh := hf.hi1
 refine ⟨h.sp.grown hg (fun k e => by simp only [Option.some.injEq] at e; subst e; exact .inl hb), ?_, ⟨ys', hy', fun i f hi hif => ?_⟩, ⟨zs, hz.kept hg ?_⟩⟩
 ·rw [hg.block _ (by omega) (by simp only [ne_eq, Option.some.injEq]; omega)]
  exact h.box
 ·obtain ⟨v, hv, hc⟩ := hk i f hi hif
  have hil := (List.getElem?_eq_some_iff.1 hif).1
  obtain ⟨r1, r2, r3, _⟩ := hf.lr i hil
  have := r3 g rfl
  refine ⟨v, hv.keep fun b hb1 hb2 => hg.block b (by omega) (by simp only [ne_eq, Option.some.injEq]; omega), fun t u hu => ?_⟩
  rw [hk' _ (by omega)]
  exact hc t u hu
 ·cases hm : (Value.slice MA M mc).ownBlock with
  | none => exact .inl rfl
  | some b => exact .inr fun e => own_apart hz hy (by decide) hm (by rw [e]; rfl)
theorem Spl.there {g i : Nat} (h : Spl w wr lo hi n ks (some ⟨g, 0, none⟩) kc MA mc M box L R j) (hi' : i < ks.length) : wr.there g (i * 9) 9 := by
 obtain ⟨ys, hy, _⟩ := h.row
 intro t ht
 refine ⟨?_, hy.frozenAt _⟩
 rw [hy.cellAt _ (by omega), List.getElem?_eq_getElem (by rw [hy.1]; omega)]
 rfl
theorem Spl.piece {g : Nat} (h : Spl w wr lo hi n ks KA kc (some ⟨g, 0, none⟩) mc M box L R j) (hf : SplFix w lo hi ks KA kc (some ⟨g, 0, none⟩) mc M L R) (hj : ks.length ≤ j) (k : Nat) (u : Value) : Spl w (wr.setCell ⟨g, k, none⟩ u) lo hi n ks KA kc (some ⟨g, 0, none⟩) mc M box L R j := by
 obtain ⟨ys, hy, _⟩ := h.row
 obtain ⟨zs, hz⟩ := h.mrow
 obtain ⟨hz', hg⟩ := hz.stored k u
 have hb := hf.mb g rfl
 have hsz := h.size
 have hh := hf.hi1
 refine ⟨h.sp.grown hg (fun k e => by simp only [Option.some.injEq] at e; subst e; exact .inl hb), ?_, ⟨ys, hy.kept hg ?_, fun i f hi hif => ?_⟩, ⟨_, hz'⟩⟩
 ·rw [hg.block _ (by omega) (by simp only [ne_eq, Option.some.injEq]; omega)]
  exact h.box
 ·cases hm : (Value.slice KA ks.length kc).ownBlock with
  | none => exact .inl rfl
  | some b => exact .inr fun e => own_apart hy hz (by decide) hm (by rw [e]; rfl)
 ·have := (List.getElem?_eq_some_iff.1 hif).1
  omega
theorem Spl.pieceAt (h : Spl w wr lo hi n ks KA kc MA mc M box L R j) {k : Nat} (hk : k < M) : ∃ g z, MA = some ⟨g, 0, none⟩ ∧ wr.cell? ⟨g, k, none⟩ = some z ∧ wr.frozen? ⟨g, k, none⟩ = false := by
 obtain ⟨zs, hz⟩ := h.mrow
 obtain ⟨g, rfl, _, _, _⟩ := slice_at hz (by omega) rfl
 refine ⟨g, zs[k]'(by rw [hz.1]; omega), rfl, ?_, hz.frozenAt _⟩
 rw [hz.cellAt _ (by omega), List.getElem?_eq_getElem (by rw [hz.1]; omega)]
end
structure SplGrow (w wr : World) (lo hi : Nat) (lv mv : Value) (kn mn : Nat) : Prop where
 sp : Spared lo hi w wr
 size : w.heap.size ≤ wr.heap.size
 lrow : ∃ ys, wr.ownsRow 0 26 9 lv kn ys
 mrow : ∃ zs, wr.ownsRow 0 9 1 mv mn zs
 lb : ∀ b, lv.ownBlock = some b → (lo ≤ b ∧ b < hi) ∨ w.heap.size ≤ b
 mb : ∀ b, mv.ownBlock = some b → (lo ≤ b ∧ b < hi) ∨ w.heap.size ≤ b
section
variable {w wr w4 : World} {lo hi kn mn g cap : Nat} {lv mv : Value} {o : Obj} {ys : List Value}
theorem SplGrow.left (h : SplGrow w wr lo hi lv mv kn mn) (hg : (wr.alloc o).grownBy w4 lv.ownBlock) (ho : w4.ownsRow 0 26 9 (.slice (some ⟨g, 0, none⟩) (kn + 1) cap) (kn + 1) ys) (hat : lv.ownBlock = some g ∨ g = (wr.alloc o).heap.size) :
  SplGrow w w4 lo hi (.slice (some ⟨g, 0, none⟩) (kn + 1) cap) mv (kn + 1) mn := by
 obtain ⟨ys0, hy⟩ := h.lrow
 obtain ⟨zs, hz⟩ := h.mrow
 have s1 := h.size
 have s4 := hg.size
 simp at s4
 refine ⟨(h.sp.trans (Spared.below ((Below.refl _ _).alloc (Nat.le_refl _) o))).grown hg h.lb, by omega, ⟨_, ho⟩, ⟨zs, (hz.alloc o).kept hg ?_⟩, fun b e => ?_, h.mb⟩
 ·cases hm : mv.ownBlock with
  | none => exact .inl rfl
  | some b => exact .inr fun e => own_apart hz hy (by decide) hm e.symm
 ·simp only [Value.ownBlock, Option.some.injEq] at e
  subst e
  rcases hat with e | e
  ·exact h.lb _ e
  ·simp at e; exact .inr (by omega)
theorem SplGrow.right (h : SplGrow w wr lo hi lv mv kn mn) (hg : (wr.alloc o).grownBy w4 mv.ownBlock) (ho : w4.ownsRow 0 9 1 (.slice (some ⟨g, 0, none⟩) (mn + 1) cap) (mn + 1) ys) (hat : mv.ownBlock = some g ∨ g = (wr.alloc o).heap.size) :
  SplGrow w w4 lo hi lv (.slice (some ⟨g, 0, none⟩) (mn + 1) cap) kn (mn + 1) := by
 obtain ⟨ys0, hy⟩ := h.lrow
 obtain ⟨zs, hz⟩ := h.mrow
 have s1 := h.size
 have s4 := hg.size
 simp at s4
 refine ⟨(h.sp.trans (Spared.below ((Below.refl _ _).alloc (Nat.le_refl _) o))).grown hg h.mb, by omega, ⟨ys0, (hy.alloc o).kept hg ?_⟩, ⟨_, ho⟩, h.lb, fun b e => ?_⟩
 ·cases hm : lv.ownBlock with
  | none => exact .inl rfl
  | some b => exact .inr fun e => own_apart hy hz (by decide) hm e.symm
 ·simp only [Value.ownBlock, Option.some.injEq] at e
  subst e
  rcases hat with e | e
  ·exact h.mb _ e
  ·simp at e; exact .inr (by omega)
theorem SplGrow.lform (h : SplGrow w wr lo hi lv mv kn mn) : ∃ A c, lv = .slice A kn c := by
 obtain ⟨ys, hy⟩ := h.lrow
 obtain ⟨A, c, e, _⟩ := own_slice hy
 exact ⟨A, c, e⟩
theorem SplGrow.mform (h : SplGrow w wr lo hi lv mv kn mn) : ∃ A c, mv = .slice A mn c := by
 obtain ⟨ys, hy⟩ := h.mrow
 obtain ⟨A, c, e, _⟩ := own_slice hy
 exact ⟨A, c, e⟩
end
theorem sizeFT : (Tryz.prog.info? 26).map (·.size) = some 9 := by kernel_rfl
theorem news_txt (w : World) (u : Value) (t : TypeId) : ∀ j x, [u][j]? = some x → (w.alloc (.cells #[u] t)).cell? ((⟨w.heap.size, 0, none⟩ : Addr).add j) = some x := news_new w #[u] t rfl
set_option maxHeartbeats 3200000 in
set_option maxRecDepth 100000 in
theorem spoil_p : ∀ (fuel : Nat) (f : Flt) (v : Value) (w : World) (lo hi : Nat), OAt w lo hi fuel f v → hi ≤ w.heap.size → tot f ≤ 4611686018427387904 →
  Calls Tryz.prog 14 #[v] w fun e w' => e = .returned (.int .i64 ((tot f : Nat) : Int)) ∧ Spared lo hi w w' := by
 intro fuel
 induction fuel with
 | zero => intro f v w lo hi h; exact h.elim
 | succ fuel ih =>
  intro f v w lo hi hO hhi htot
  obtain ⟨k, ks, ds, vl, st, ms, fn, rl, dn⟩ := f
  obtain ⟨KA, kc, MA, mc, xs, L, R, rfl, hfit, hr, hm, h1, h2, hks, hLR⟩ := hO
  have hkn := hfit.kn1
  have hkc := hfit.kc0
  have hmn := hfit.mn1
  obtain ⟨i0, hi0, hz0, hz1, hz2⟩ := info_parts infoFT
  obtain ⟨j0, hjT, hy0, hy1, hy2⟩ := info_parts infoST
  simp only [tot] at htot ⊢
  obtain ⟨N, hN⟩ : ∃ N, ks.length = N := ⟨_, rfl⟩
  obtain ⟨M, hM⟩ : ∃ M, ms.length = M := ⟨_, rfl⟩
  have hfix : SplFix w lo hi ks KA kc MA mc M L R := by
   subst hM
   refine ⟨fun b e => ⟨(hr.lt b e).1, h1 b e⟩, fun b e => ⟨(hm.lt b e).1, h2 b e⟩, hhi, fun i hi => ?_, hLR⟩
   obtain ⟨v, _, q1, q2, q3, q4, _⟩ := hks i _ (List.getElem?_eq_getElem hi)
   exact ⟨q1, q2, q3, q4⟩
  have hst : Spl w (w.alloc (.cells #[.int .i8 k, .slice KA N kc, .string ⟨ds.toArray⟩, .string ⟨vl.toArray⟩, .string ⟨st.toArray⟩, .slice MA M mc, .string ⟨fn.toArray⟩, .string ⟨rl.toArray⟩, .bool dn] 26)) lo hi fuel ks KA kc MA mc M
    #[.int .i8 k, .slice KA N kc, .string ⟨ds.toArray⟩, .string ⟨vl.toArray⟩, .string ⟨st.toArray⟩, .slice MA M mc, .string ⟨fn.toArray⟩, .string ⟨rl.toArray⟩, .bool dn] L R 0 := by
   subst hM
   refine ⟨Spared.below ((Below.refl _ _).alloc (Nat.le_refl _) _), heap_alloc_new _ _, ⟨xs, hr.alloc _, fun i f _ hif => ?_⟩, ⟨_, hm.alloc _⟩⟩
   obtain ⟨v, q0, q1, q2, q3, q4, q5⟩ := hks i f hif
   exact ⟨v, q0.keep fun b hb1 hb2 => Below.heap_alloc _ _ _ (by omega), q5⟩
  have HFX := Lib.hid hfix
  have HST := Lib.hid hst
  have HN := Lib.hid hN
  have IH := Lib.hid ih
  have HTT := Lib.hid htot
  unfold flt
  rw [hN] at hkn hkc htot ⊢
  rw [hM] at hmn htot ⊢
  clear ih hfit hr hm h1 h2 hks hLR hfix hst hN hM
  go_enter Tryz.func14, Tryz.ntmps14
  go_wp2_with fail
  go_loopw [3, 4] (fun z i wr => ∃ (j : Nat), j ≤ N ∧ z = .int .i64 ((tots (ks.take j) : Nat) : Int) ∧ i = .int .i64 j ∧ Spl w wr lo hi fuel ks KA kc MA mc M #[.int .i8 k, .slice KA N kc, .string ⟨ds.toArray⟩, .string ⟨vl.toArray⟩, .string ⟨st.toArray⟩, .slice MA M mc, .string ⟨fn.toArray⟩, .string ⟨rl.toArray⟩, .bool dn] L R j) (fun _ i _ => N - (RowKit.intOf i).toNat)
  case atStart => exact ⟨0, Nat.zero_le _, by simp [tots], rfl, HST.out⟩
  case round =>
   clear HST
   obtain ⟨j, hj, rfl, rfl, hP⟩ := hrel
   have HP := Lib.hid hP
   have hsz := hP.size
   have c1 : wr.cell? ⟨w.heap.size, 1, none⟩ = some (.slice KA N kc) := by simp [World.cell?, hP.box]
   by_cases hlt : j < N
   ·have hq := List.getElem?_eq_getElem (l := ks) (i := j) (by rw [HN.out]; exact hlt)
    generalize ks[j]'(by rw [HN.out]; exact hlt) = q at hq
    obtain ⟨g, fv, rfl, hO, hcells⟩ := hP.kid hq
    obtain ⟨fA, fc, fM, fmc, fk, fks, f2, f3, f4, fms, f6, f7, fx, hqe, rfl, _⟩ := FAtS.formF (FAtS.of hO.at)
    obtain ⟨l0, l1, l2, l3, l4, l5, l6, l7, l8⟩ : wr.cell? ⟨g, j * 9, none⟩ = some (.int .i8 fk) ∧ wr.cell? ⟨g, j * 9 + 1, none⟩ = some (.slice fA fks.length fc) ∧ wr.cell? ⟨g, j * 9 + 2, none⟩ = some (.string ⟨f2.toArray⟩) ∧ wr.cell? ⟨g, j * 9 + 3, none⟩ = some (.string ⟨f3.toArray⟩) ∧ wr.cell? ⟨g, j * 9 + 4, none⟩ = some (.string ⟨f4.toArray⟩) ∧ wr.cell? ⟨g, j * 9 + 5, none⟩ = some (.slice fM fms.length fmc) ∧ wr.cell? ⟨g, j * 9 + 6, none⟩ = some (.string ⟨f6.toArray⟩) ∧ wr.cell? ⟨g, j * 9 + 7, none⟩ = some (.string ⟨f7.toArray⟩) ∧ wr.cell? ⟨g, j * 9 + 8, none⟩ = some (.bool fx) :=
     ⟨hcells 0 _ rfl, hcells 1 _ rfl, hcells 2 _ rfl, hcells 3 _ rfl, hcells 4 _ rfl, hcells 5 _ rfl, hcells 6 _ rfl, hcells 7 _ rfl, hcells 8 _ rfl⟩
    have HOQ := Lib.hid hO
    obtain ⟨r1, r2, _, _⟩ := HFX.out.lr j (by rw [HN.out]; exact hlt)
    have hle := tots_take ks (j + 1)
    rw [tots_step hq] at hle
    have HST := Lib.hid (tots_step hq)
    have htq : tot q ≤ 4611686018427387904 := by omega
    have hhq : R j ≤ wr.heap.size := by omega
    have HIH := Lib.hid (IH.out q _ wr (L j) (R j) HOQ.out hhq htq)
    have HJN := Lib.hid (show j < ks.length by rw [HN.out]; exact hlt)
    have hsum : tots (ks.take j) + tot q ≤ 4611686018427387904 := by omega
    clear hcells hO hP hqe hq hle
    obtain ⟨za, hza⟩ : ∃ za, tots (ks.take j) = za := ⟨_, rfl⟩
    obtain ⟨zb, hzb⟩ : ∃ zb, tot q = zb := ⟨_, rfl⟩
    rw [hza, hzb] at HST hsum
    rw [hzb] at HIH
    rw [hza]
    clear hza hzb htq
    go_upto_region 6 with (go_at_call 14; (with_reducible refine HIH.out.mono ?_); rintro e w2 ⟨rfl, hs2⟩; have HP2 := Lib.hid (HP.out.mid HFX.out HJN.out hs2); have d1 : w2.cell? ⟨w.heap.size, 1, none⟩ = some (.slice (some ⟨g, 0, none⟩) N kc) := (by simp [World.cell?, HP2.out.box]); clear hs2)
    have HTH := Lib.hid (HP2.out.there HJN.out)
    obtain ⟨w5, hw5⟩ : ∃ w5, w2.setCells g (j * 9) (#[.int .i8 99, .slice none 0 0, .string ⟨#[115, 112, 111, 105, 108, 116]⟩, .string ⟨#[]⟩, .string ⟨#[]⟩, .slice none 0 0, .string ⟨#[]⟩, .string ⟨#[]⟩, .bool false] : Array Value).toList = w5 := ⟨_, rfl⟩
    have hinf := sizeFT
    go_wp2_with (refine wpList_store_mid rfl 26 (.tmp 28) (.tmp 27) rfl g (j * 9) #[.int .i8 99, .slice none 0 0, .string ⟨#[115, 112, 111, 105, 108, 116]⟩, .string ⟨#[]⟩, .string ⟨#[]⟩, .slice none 0 0, .string ⟨#[]⟩, .string ⟨#[]⟩, .bool false] rfl rfl HTH.out hinf (by simp [Value.oneCell']) ?_; rw [hw5])
    go_round
    case rel => exact ⟨j + 1, by omega, by rw [HST.out]; go_num, by go_num, hw5 ▸ HP2.out.over HFX.out _ rfl⟩
    case measure => simp [RowKit.intOf]; omega
   ·have ej : j = N := by omega
    subst ej
    have hzz : tots (ks.take j) = tots ks := by rw [← HN.out, List.take_length]
    rw [hzz]
    obtain ⟨za, hza⟩ : ∃ za, tots ks = za := ⟨_, rfl⟩
    rw [hza] at htot hzz ⊢
    have HZA := Lib.hid hza
    clear hP hza hzz hlt
    go_wp2_with fail
    go_loopw [5] (fun i wr => ∃ (t : Nat), t ≤ M ∧ i = .int .i64 t ∧ Spl w wr lo hi fuel ks KA kc MA mc M #[.int .i8 k, .slice KA j kc, .string ⟨ds.toArray⟩, .string ⟨vl.toArray⟩, .string ⟨st.toArray⟩, .slice MA M mc, .string ⟨fn.toArray⟩, .string ⟨rl.toArray⟩, .bool dn] L R j) (fun i _ => M - (RowKit.intOf i).toNat)
    case atStart => exact ⟨0, Nat.zero_le _, rfl, HP.out⟩
    case round =>
     clear HP hsz c1
     obtain ⟨t, ht, rfl, hP⟩ := hrel
     have HP := Lib.hid hP
     have hsz := hP.size
     have c1 : wr.cell? ⟨w.heap.size, 1, none⟩ = some (.slice KA j kc) := by simp [World.cell?, hP.box]
     have c5 : wr.cell? ⟨w.heap.size, 5, none⟩ = some (.slice MA M mc) := by simp [World.cell?, hP.box]
     by_cases hlt : t < M
     ·obtain ⟨g, z, rfl, hc, hfz⟩ := hP.pieceAt hlt
      clear hP
      go_wp2_with fail
      go_round
      case rel => exact ⟨t + 1, by omega, by go_num, HP.out.piece HFX.out (by rw [HN.out]; exact Nat.le_refl _) t _⟩
      case measure => simp [RowKit.intOf]; omega
     ·have et : t = M := by omega
      subst et
      clear hlt
      have hgr : SplGrow w wr lo hi (.slice KA j kc) (.slice MA t mc) j t := by
       obtain ⟨ys, hy, _⟩ := hP.row
       obtain ⟨zs, hz⟩ := hP.mrow
       rw [HN.out] at hy
       refine ⟨hP.sp, by omega, ⟨ys, own_at hy (Nat.zero_le _) fun _ _ _ => rfl⟩, ⟨zs, own_at hz (Nat.zero_le _) fun _ _ _ => rfl⟩, fun b e => .inl (HFX.out.kb b (by rw [HN.out]; exact e)), fun b e => .inl (HFX.out.mb b e)⟩
      have HGR := Lib.hid hgr
      clear hP hgr HP
      go_wp2_with fail
      go_loopw [6, 7, 8] (fun lv mv i wr => ∃ (s : Nat), s ≤ 9 ∧ i = .int .i64 s ∧ SplGrow w wr lo hi lv mv (j + s) (t + s)) (fun _ _ i _ => 9 - (RowKit.intOf i).toNat)
      case atStart => exact ⟨0, Nat.zero_le _, rfl, HGR.out⟩
      case round =>
       clear HGR c1 c5 hsz
       obtain ⟨s, hs, rfl, hG⟩ := hrel
       have hsz := hG.size
       by_cases hlt : s < 9
       ·obtain ⟨ys, hy⟩ := hG.lrow
        have HY := Lib.hid hy
        have HG := Lib.hid hG
        clear hG hy
        go_upto_region 17 with (at_builtin; (refine wpList_append_lies _ rfl (.tmp 48) (.tmp 50) _ rfl 0 26 i0 _ 9 144 Tryz.underlying23 hi0 hz0 hz1 hz2 rfl (by decide) u6 (j + s) ys rfl (HY.out.alloc _) ⟨wr.heap.size, 0, none⟩ 1 1 [.int .i8 98, .slice none 0 0, .string ⟨#[]⟩, .string ⟨#[]⟩, .string ⟨#[]⟩, .slice none 0 0, .string ⟨#[]⟩, .string ⟨#[]⟩, .bool false] rfl rfl (news_new wr #[.int .i8 98, .slice none 0 0, .string ⟨#[]⟩, .string ⟨#[]⟩, .string ⟨#[]⟩, .slice none 0 0, .string ⟨#[]⟩, .string ⟨#[]⟩, .bool false] _ rfl) (by simp [Value.oneCell']) (by decide) (by unfold maxLen; omega) (by omega) (Nat.zero_le _) _ rfl ?_; intro g4 c4 w4 ho4 hg4 hat4 hlt4; have HG4 := Lib.hid (HG.out.left hg4 ho4 hat4); clear ho4 hg4 hat4 hlt4))
        obtain ⟨zs, hz⟩ := HG4.out.mrow
        have HZ := Lib.hid hz
        have hs4 := HG4.out.size
        clear hz
        go_wp2_with (at_builtin; refine wpList_append_lies _ rfl (.tmp 52) (.tmp 53) _ rfl 0 9 j0 _ 1 16 Tryz.underlying24 hjT hy0 hy1 hy2 rfl (by decide) u7 (t + s) zs rfl (HZ.out.alloc _) ⟨w4.heap.size, 0, none⟩ 1 1 [.string ⟨#[109, 111, 114, 101]⟩] rfl rfl (news_txt w4 _ _) (by simp [Value.oneCell']) (by decide) (by unfold maxLen; omega) (by omega) (Nat.zero_le _) _ rfl ?_; intro g5 c5 w5 ho5 hg5 hat5 hlt5; have HG5 := Lib.hid (HG4.out.right hg5 ho5 hat5); clear ho5 hg5 hat5 hlt5)
        go_round
        case rel => exact ⟨s + 1, by omega, by go_num, HG5.out⟩
        case measure => simp [RowKit.intOf]; omega
       ·have es : s = 9 := by omega
        subst es
        obtain ⟨A1, c1, rfl⟩ := hG.lform
        obtain ⟨A2, c2, rfl⟩ := hG.mform
        have HSP := Lib.hid hG.sp
        clear hG
        go_wp2_with fail
        go_ret
        exact ⟨by rw [HZA.out]; go_num, HSP.out⟩
end Go.Proofs.YtdkfmckbeagenaaGreatDoor
