/-
  A filter copied into a block of its own, its kids one by one: what the walks of the twins lean on. Marks behind a filter's lists.
  rosterlaw16.twin: a filter in memory of its own, marks behind its lists.
  rosterlaw16.marked, kept: a filter with marks behind its lists is as it was.
  rosterref09.twin: a filter in memory of its own.
-/
import Derived.Test.YtdkfmckbeagenaaGreatDoorQG4
import Derived.Test.YtdkfmckbeagenaaGreatDoorFltG17
import Derived.Test.YtdkfmckbeagenaaGreatDoorQD2
import Derived.Deep.QuietTactic
import Derived.Deep.RegionLaw
set_option linter.unusedVariables false
set_option linter.unusedSimpArgs false
namespace Go.Proofs.YtdkfmckbeagenaaGreatDoor
open Go.RowKit Go.FltLaw Go.Lib Go.RankLaw

def Keeps (A : World → Nat → Nat → Flt → Value → Prop) : Prop := ∀ w w' lo hi f v, A w lo hi f v → (∀ b, lo ≤ b → b < hi → w'.heap[b]? = w.heap[b]?) → A w' lo hi f v
def KidsG (A : World → Nat → Nat → Flt → Value → Prop) (w : World) (B : Nat) (ks : List Flt) (rb : Option Nat) (xs : List Value) : Prop :=
 ∀ i f, ks[i]? = some f → ∃ v lo hi, A w lo hi f v ∧ B ≤ lo ∧ hi ≤ w.heap.size ∧ (∀ b, rb = some b → b < lo ∨ hi ≤ b) ∧ ∀ j u, v.cells[j]? = some u → xs[i * 9 + j]? = some u
section
variable {A : World → Nat → Nat → Flt → Value → Prop} {w w2 w3 : World} {B k g : Nat} {ks : List Flt} {rb : Option Nat} {xs news : List Value} {f : Flt} {v : Value}
theorem KidsG.none (A : World → Nat → Nat → Flt → Value → Prop) (w : World) (B : Nat) (ks : List Flt) (rb : Option Nat) (xs : List Value) : KidsG A w B (ks.take 0) rb xs := fun i f h => by simp at h
theorem KidsG.step (hA : Keeps A) (h : KidsG A w B (ks.take k) rb xs) (hx : xs.length = k * 9) (hk : ks[k]? = some f) (hb : Below w.heap.size w w2) (hf : A w2 w.heap.size w2.heap.size f v) (hB : B ≤ w.heap.size)
  (hrb : ∀ b, rb = some b → b < w.heap.size) (hg : w2.grownBy w3 rb) (hat : rb = some g ∨ w2.heap.size ≤ g) (hnew : v.cells.toList = news) : KidsG A w3 B (ks.take (k + 1)) (some g) (xs ++ news) := by
 have hs := hb.size
 have hs3 := hg.size
 intro i f' hi
 have hik : i < k + 1 := by
  have := (List.getElem?_eq_some_iff.1 hi).1
  simp at this; omega
 rw [List.getElem?_take, if_pos hik] at hi
 by_cases hlt' : i < k
 ·obtain ⟨v', lo, hi', g1, g2, g3, g4, g5⟩ := h i f' (by rw [List.getElem?_take, if_pos hlt']; exact hi)
  refine ⟨v', lo, hi', hA _ _ _ _ _ _ g1 fun b hb1 hb2 => ?_, g2, by omega, fun b e => ?_, fun j u hu => ?_⟩
  ·rw [hg.block b (by omega) (fun e => by have := g4 b e.symm; omega), hb.block b (by omega)]
  ·simp only [Option.some.injEq] at e
   subst e
   rcases hat with e | e
   ·exact g4 _ e
   ·exact .inr (by omega)
  ·have := g5 j u hu
   rw [List.getElem?_append_left (List.getElem?_eq_some_iff.1 this).1]
   exact this
 ·have hik2 : i = k := by omega
  subst hik2
  rw [hk] at hi
  simp only [Option.some.injEq] at hi
  subst hi
  refine ⟨v, w.heap.size, w2.heap.size, hA _ _ _ _ _ _ hf fun b hb1 hb2 => hg.block b hb2 (fun e => by have := hrb b e.symm; omega), hB, hs3, fun b e => ?_, fun j u hu => ?_⟩
  ·simp only [Option.some.injEq] at e
   subst e
   rcases hat with e | e
   ·exact .inl (hrb _ e)
   ·exact .inr e
  ·rw [List.getElem?_append_right (by omega), ← hnew]
   simpa [hx] using hu
theorem KidsG.keep (hA : Keeps A) (h : KidsG A w B ks rb xs) (hs : w.heap.size ≤ w3.heap.size) (hk : ∀ b, B ≤ b → b < w.heap.size → rb ≠ some b → w3.heap[b]? = w.heap[b]?) : KidsG A w3 B ks rb xs := fun i f hi => by
 obtain ⟨v, lo, hi', g1, g2, g3, g4, g5⟩ := h i f hi
 exact ⟨v, lo, hi', hA _ _ _ _ _ _ g1 fun b hb1 hb2 => hk b (by omega) (by omega) (fun e => by have := g4 _ e; omega), g2, by omega, g4, g5⟩
theorem KidsG.turn (hA : Keeps A) (h : KidsG A w B ks rb xs) (hs : w.heap.size ≤ w3.heap.size) (hk : ∀ b, B ≤ b → b < w.heap.size → rb ≠ some b → w3.heap[b]? = w.heap[b]?) (hat : rb = some g ∨ w.heap.size ≤ g) : KidsG A w3 B ks (some g) xs := fun i f hi => by
 obtain ⟨v, lo, hi', g1, g2, g3, g4, g5⟩ := h i f hi
 refine ⟨v, lo, hi', hA _ _ _ _ _ _ g1 fun b hb1 hb2 => hk b (by omega) (by omega) (fun e => by have := g4 _ e; omega), g2, by omega, fun b e => ?_, g5⟩
 simp only [Option.some.injEq] at e
 subst e
 rcases hat with e | e
 ·exact g4 _ e
 ·exact .inr (by omega)
end
theorem keeps_at (n : Nat) : Keeps fun w lo hi f v => FAt false w lo hi n f v := fun _ _ _ _ _ _ h hk => h.keep fun p h1 h2 => World.cell?_of_block (hk _ h1 h2)
def MAt (w : World) (lo hi : Nat) : Nat → Flt → Value → Prop
 | 0, _, _ => False
 | n + 1, .mk k ks ds vl st ms fn rl dn, v => ∃ (kb kc mb mc : Nat),
   v = flt k (some ⟨kb, 0, none⟩) ks.length kc ds vl st (some ⟨mb, 0, none⟩) ms.length mc fn rl dn ∧ Fits k ks.length kc ds vl st ms mc fn rl ∧
   lo ≤ kb ∧ kb < hi ∧ lo ≤ mb ∧ mb < hi ∧ ks.length + 1 ≤ kc ∧ ms.length + 1 ≤ mc ∧
   (∀ j u, ms[j]? = some u → w.cell? ⟨mb, j, none⟩ = some (txt u)) ∧
   (∀ i f, ks[i]? = some f → ∃ v, MAt w lo hi n f v ∧ ∀ j u, v.cells[j]? = some u → w.cell? ⟨kb, i * 9 + j, none⟩ = some u) ∧
   w.cell? ⟨kb, ks.length * 9, none⟩ = some (.int .i8 77) ∧ w.cell? ⟨mb, ms.length, none⟩ = some (txt [35])
theorem add_zero' (g j : Nat) : (⟨g, 0, none⟩ : Addr).add j = ⟨g, j, none⟩ := by unfold Addr.add; split <;> simp_all
theorem MAt.at {w : World} {lo hi : Nat} : ∀ {n : Nat} {f : Flt} {v : Value}, MAt w lo hi n f v → FAt false w lo hi n f v
 | 0, _, _, h => h
 | n + 1, .mk k ks ds vl st ms fn rl dn, v, h => by
  obtain ⟨kb, kc, mb, mc, hv, hf, k1, k2, m1, m2, _, _, hm, hk, _, _⟩ := h
  refine ⟨_, _, _, _, hv, hf, fun _ => ⟨_, rfl, m1, m2, fun j u hu => by rw [add_zero']; exact hm j u hu⟩, fun _ => ⟨_, rfl, k1, k2, fun i f hi => ?_⟩, fun h => by cases h⟩
  obtain ⟨v, h1, h2⟩ := hk i f hi
  exact ⟨v, MAt.at h1, fun j u hu => by rw [add_zero']; exact h2 j u hu⟩
theorem MAt.keep {w w' : World} {lo hi : Nat} (hk : ∀ b, lo ≤ b → b < hi → w'.heap[b]? = w.heap[b]?) : ∀ {n : Nat} {f : Flt} {v : Value}, MAt w lo hi n f v → MAt w' lo hi n f v
 | 0, _, _, h => h
 | n + 1, .mk k ks ds vl st ms fn rl dn, v, h => by
  obtain ⟨kb, kc, mb, mc, hv, hf, k1, k2, m1, m2, c1, c2, hm, hks, x1, x2⟩ := h
  refine ⟨kb, kc, mb, mc, hv, hf, k1, k2, m1, m2, c1, c2, fun j u hu => (World.cell?_of_block (hk _ m1 m2)).trans (hm j u hu), fun i f hi => ?_, (World.cell?_of_block (hk _ k1 k2)).trans x1, (World.cell?_of_block (hk _ m1 m2)).trans x2⟩
  obtain ⟨v, h1, h2⟩ := hks i f hi
  exact ⟨v, MAt.keep hk h1, fun j u hu => (World.cell?_of_block (hk _ k1 k2)).trans (h2 j u hu)⟩
theorem MAt.wide {w : World} {lo hi lo' hi' : Nat} (hl : lo' ≤ lo) (hh : hi ≤ hi') : ∀ {n : Nat} {f : Flt} {v : Value}, MAt w lo hi n f v → MAt w lo' hi' n f v
 | 0, _, _, h => h
 | n + 1, .mk k ks ds vl st ms fn rl dn, v, h => by
  obtain ⟨kb, kc, mb, mc, hv, hf, k1, k2, m1, m2, c1, c2, hm, hks, x1, x2⟩ := h
  refine ⟨kb, kc, mb, mc, hv, hf, by omega, by omega, by omega, by omega, c1, c2, hm, fun i f hi => ?_, x1, x2⟩
  obtain ⟨v, h1, h2⟩ := hks i f hi
  exact ⟨v, MAt.wide hl hh h1, h2⟩
theorem keeps_mark (n : Nat) : Keeps fun w lo hi f v => MAt w lo hi n f v := fun _ _ _ _ _ _ h hk => MAt.keep hk h
structure Copying (A : World → Nat → Nat → Flt → Value → Prop) (w wr : World) (ks : List Flt) (j : Nat) (ms : List (List UInt8)) (m : Option Nat) (box : Array Value) (a0 a2 a3 a4 a6 a7 a8 kv mv : Value) (xs : List Value) : Prop where
 below : Below w.heap.size w wr
 fb : wr.heap[w.heap.size]? = some (.cells box 26 (0, 0))
 rb : wr.heap[w.heap.size + 1]? = some (.cells blankT 26 (0, 0))
 gb : wr.heap[w.heap.size + 2]? = some (.cells #[a0, kv, a2, a3, a4, mv, a6, a7, a8] 26 (0, 0))
 row : wr.ownsRow (w.heap.size + 3) 26 9 kv j xs
 kids : KidsG A wr (w.heap.size + 3) (ks.take j) kv.ownBlock xs
 mrow : ∀ t, m = some t → wr.ownsRow (w.heap.size + 3) 9 1 mv t ((ms.take t).map txt) ∧ ∀ b, mv.ownBlock = some b → kv.ownBlock ≠ some b
section
variable {A : World → Nat → Nat → Flt → Value → Prop} {w wr w2 w3 w4 : World} {ks : List Flt} {j t g cap : Nat} {ms : List (List UInt8)} {m : Option Nat} {box : Array Value} {a0 a2 a3 a4 a6 a7 a8 kv mv : Value} {xs : List Value} {f : Flt} {cs : Array Value}
theorem Copying.size (h : Copying A w wr ks j ms m box a0 a2 a3 a4 a6 a7 a8 kv mv xs) : w.heap.size + 3 ≤ wr.heap.size := by
 have := (Array.getElem?_eq_some_iff.1 h.gb).1
 omega
theorem Copying.draw (hA : Keeps A) (h : Copying A w wr ks j ms m box a0 a2 a3 a4 a6 a7 a8 kv mv xs) (hb : Below wr.heap.size wr w2) : Copying A w w2 ks j ms m box a0 a2 a3 a4 a6 a7 a8 kv mv xs := by
 have hsz := h.size
 refine ⟨h.below.trans (hb.mono (by omega)), (hb.block _ (by omega)).trans h.fb, (hb.block _ (by omega)).trans h.rb, (hb.block _ (by omega)).trans h.gb, own_later h.row hb, h.kids.keep hA hb.size fun b _ h2 _ => hb.block b h2, fun t ht => ⟨own_later (h.mrow t ht).1 hb, (h.mrow t ht).2⟩⟩
theorem Copying.kid (hA : Keeps A) (h : Copying A w wr ks j ms m box a0 a2 a3 a4 a6 a7 a8 kv mv xs) (hf : ks[j]? = some f) (hb : Below wr.heap.size wr w2) (hv : A w2 wr.heap.size w2.heap.size f (.agg cs)) (h3 : w2.grownBy w3 none)
  (hown : w4.ownsRow (w.heap.size + 3) 26 9 (.slice (some ⟨g, 0, none⟩) (j + 1) cap) (j + 1) (xs ++ cs.toList)) (hg : w3.grownBy w4 kv.ownBlock) (hat : kv.ownBlock = some g ∨ g = w3.heap.size) :
  Copying A w (w4.setCell ⟨w.heap.size + 1 + 1, 1, none⟩ (.slice (some ⟨g, 0, none⟩) (j + 1) cap)) ks (j + 1) ms m box a0 a2 a3 a4 a6 a7 a8 (.slice (some ⟨g, 0, none⟩) (j + 1) cap) mv (xs ++ cs.toList) := by
 have hsz := h.size
 have hb2 := hb.size
 have hs3 := h3.size
 have hrb : ∀ b, kv.ownBlock = some b → w.heap.size + 3 ≤ b ∧ b < wr.heap.size := fun b e => h.row.lt b e
 have h34 : w2.grownBy w4 kv.ownBlock := World.grownBy.trans ⟨h3.os, h3.tape, h3.output, h3.size, fun k hk _ => h3.block k hk (by simp)⟩ hg
 have hs4 := h34.size
 have st : ∀ b, b ≠ w.heap.size + 1 + 1 → (w4.setCell ⟨w.heap.size + 1 + 1, 1, none⟩ (.slice (some ⟨g, 0, none⟩) (j + 1) cap)).heap[b]? = w4.heap[b]? := fun b hb' => Below.heap_setCell _ _ _ _ (by simpa using hb')
 have ssz : (w4.setCell ⟨w.heap.size + 1 + 1, 1, none⟩ (.slice (some ⟨g, 0, none⟩) (j + 1) cap)).heap.size = w4.heap.size := by simp [World.setCell]
 have keep : ∀ b, b < w.heap.size + 3 → w4.heap[b]? = wr.heap[b]? := fun b hb' => by
  rw [h34.block b (by omega) (fun e => by have := hrb b e.symm; omega), hb.block b (by omega)]
 have g4 : w4.heap[w.heap.size + 1 + 1]? = some (.cells #[a0, kv, a2, a3, a4, mv, a6, a7, a8] 26 (0, 0)) := by rw [keep _ (by omega)]; exact h.gb
 refine ⟨((h.below.trans (hb.mono (by omega))).grown h34 (by omega) (fun k e => by have := hrb k e; omega)).setCell (by simp; omega) _, ?_, ?_, ?_, own_blocks hown fun b hb' => st b (by omega), ?_, fun t ht => ⟨?_, ?_⟩⟩
 ·rw [st _ (by omega), keep _ (by omega)]; exact h.fb
 ·rw [st _ (by omega), keep _ (by omega)]; exact h.rb
 ·have := heap_setCell_same w4 (w.heap.size + 1 + 1) 1 _ _ (.slice (some ⟨g, 0, none⟩) (j + 1) cap) g4
  simpa using this
 ·exact (h.kids.step (g := g) hA h.row.1 hf hb hv (by omega) (fun b e => (hrb b e).2) h34 (hat.imp id fun e => by omega) rfl).keep hA (by omega) fun b hb1 _ _ => st b (by omega)
 ·refine own_blocks ((own_later (h.mrow t ht).1 hb).kept h34 ?_) fun b hb' => st b (by omega)
  cases hm : mv.ownBlock with
  | none => exact .inl rfl
  | some b => exact .inr fun e => (h.mrow t ht).2 b hm e.symm
 ·intro b hm e
  have hml := (h.mrow t ht).1.lt b hm
  simp only [Value.ownBlock, Option.some.injEq] at e
  subst e
  rcases hat with e | e
  ·exact (h.mrow t ht).2 g hm e
  ·omega
end
end Go.Proofs.YtdkfmckbeagenaaGreatDoor

namespace Go.Proofs.YtdkfmckbeagenaaGreatDoor
open Go.RowKit Go.FltLaw Go.Lib Go.RankLaw

theorem three_gb (w : World) (o1 o2 o3 : Obj) : (((w.alloc o1).alloc o2).alloc o3).heap[w.heap.size]? = some o1 ∧ (((w.alloc o1).alloc o2).alloc o3).heap[w.heap.size + 1]? = some o2 ∧ (((w.alloc o1).alloc o2).alloc o3).heap[w.heap.size + 2]? = some o3 := by
 refine ⟨kb_alloc (heap_alloc2_old w o1 o2), kb_alloc (heap_alloc2_new w o1 o2), ?_⟩
 have := heap_alloc2_new (w.alloc o1) o2 o3
 simpa using this
theorem Copying.start (A : World → Nat → Nat → Flt → Value → Prop) (w : World) (ks : List Flt) (ms : List (List UInt8)) (box : Array Value) (a0 a2 a3 a4 a5 a6 a7 a8 : Value) :
  Copying A w (((w.alloc (.cells box 26)).alloc (.cells blankT 26)).alloc (.cells #[a0, .slice none 0 0, a2, a3, a4, a5, a6, a7, a8] 26)) ks 0 ms none box a0 a2 a3 a4 a6 a7 a8 (.slice none 0 0) a5 [] := by
 obtain ⟨h1, h2, h3⟩ := three_gb w (.cells box 26) (.cells blankT 26) (.cells #[a0, .slice none 0 0, a2, a3, a4, a5, a6, a7, a8] 26)
 exact ⟨(((Below.refl _ _).alloc (Nat.le_refl _) _).alloc (by simp) _).alloc (by simp; omega) _, h1, h2, h3, World.ownsRow_nil _ _ _ _, KidsG.none _ _ _ _ _ _, fun t h => by cases h⟩
theorem Copying.gb4 {A : World → Nat → Nat → Flt → Value → Prop} {w wr w2 w3 w4 : World} {ks : List Flt} {j : Nat} {ms : List (List UInt8)} {m : Option Nat} {box : Array Value} {a0 a2 a3 a4 a6 a7 a8 kv mv : Value} {xs : List Value} (h : Copying A w wr ks j ms m box a0 a2 a3 a4 a6 a7 a8 kv mv xs)
  (hb : Below wr.heap.size wr w2) (h3 : w2.grownBy w3 none) (hg : w3.grownBy w4 kv.ownBlock) : w4.heap[w.heap.size + 1 + 1]? = some (.cells #[a0, kv, a2, a3, a4, mv, a6, a7, a8] 26 (0, 0)) ∧ w4.heap[w.heap.size]? = some (.cells box 26 (0, 0)) ∧ Below w.heap.size w w4 := by
 have hsz := h.size
 have hb2 := hb.size
 have hs3 := h3.size
 have hrb : ∀ b, kv.ownBlock = some b → w.heap.size + 3 ≤ b ∧ b < wr.heap.size := fun b e => h.row.lt b e
 have h34 : w2.grownBy w4 kv.ownBlock := World.grownBy.trans ⟨h3.os, h3.tape, h3.output, h3.size, fun k hk _ => h3.block k hk (by simp)⟩ hg
 have keep : ∀ b, b < w.heap.size + 3 → w4.heap[b]? = wr.heap[b]? := fun b hb' => by
  rw [h34.block b (by omega) (fun e => by have := hrb b e.symm; omega), hb.block b (by omega)]
 exact ⟨by rw [keep _ (by omega)]; exact h.gb, by rw [keep _ (by omega)]; exact h.fb, (h.below.trans (hb.mono (by omega))).grown h34 (by omega) (fun k e => by have := hrb k e; omega)⟩
theorem mark_end {A : World → Nat → Nat → Flt → Value → Prop} {wr w6 wf : World} {H n : Nat} {e es : TypeId} {k : Int} {ks : List Flt} {kc0 mc0 g6 cap6 g7 cap7 : Nat} {ds vl st : List UInt8} {ms : List (List UInt8)} {fn rl : List UInt8} {dn : Bool} {xs sp : List Value} {kv : Value} {o1 : Obj}
  (hA : ∀ w lo hi f v, A w lo hi f v → MAt w lo hi n f v) (hK : Keeps A) (hf : Fits k ks.length kc0 ds vl st ms mc0 fn rl) (hk : KidsG A wr (H + 3) ks kv.ownBlock xs) (hx : xs.length = ks.length * 9) (hsp : sp[0]? = some (.int .i8 77))
  (h6 : (wr.alloc o1).grownBy w6 kv.ownBlock) (a6 : kv.ownBlock = some g6 ∨ g6 = (wr.alloc o1).heap.size)
  (hrow : w6.ownsRow (H + 3) e 9 (.slice (some ⟨g6, 0, none⟩) (ks.length + 1) cap6) (ks.length + 1) (xs ++ sp)) (hfar : ∀ b, H + 3 ≤ b → b < w6.heap.size → wf.heap[b]? = w6.heap[b]?) (hsz : w6.heap.size ≤ wf.heap.size)
  (hms : wf.ownsRow (H + 3) es 1 (.slice (some ⟨g7, 0, none⟩) (ms.length + 1) cap7) (ms.length + 1) (ms.map txt ++ [txt [35]])) :
  MAt wf H wf.heap.size (n + 1) (.mk k ks ds vl st ms fn rl dn) (flt k (some ⟨g6, 0, none⟩) ks.length cap6 ds vl st (some ⟨g7, 0, none⟩) ms.length cap7 fn rl dn) := by
 have s6 := h6.size
 simp at s6 a6
 obtain ⟨r1, r2, r3, r4⟩ := row_form hrow
 obtain ⟨q1, q2, q3, q4⟩ := row_form hms
 have hk' := hk.turn (w3 := wf) (g := g6) hK (by omega) (fun b h1 h2 h3 => by rw [hfar b h1 (by omega), h6.block b (by simp; omega) (fun e => h3 e.symm), Below.heap_alloc _ _ _ (by omega)]) (a6.imp id fun e => by omega)
 have hr := own_at (w' := wf) hrow (Nat.le_refl _) (fun b h1 h2 => by simp only [Value.ownBlock, Option.some.injEq] at h2; subst h2; exact hfar _ h1 r2)
 refine ⟨g6, cap6, g7, cap7, rfl, ⟨hf.k0, hf.k1, by omega, r4, hf.kn1, hf.ds1, hf.vl1, hf.st1, by omega, q4, hf.mn1, hf.ms1, hf.fn1, hf.rl1⟩, by omega, by omega, by omega, q2, r3, q3, fun j u hu => ?_, fun i f hi => ?_, ?_, ?_⟩
 ·refine row_cell hms ?_
  rw [List.getElem?_append_left (by simpa using (List.getElem?_eq_some_iff.1 hu).1), List.getElem?_map, hu]; rfl
 ·obtain ⟨v, lo, hi', h1, h2, h3, h4, h5⟩ := hk' i f hi
  refine ⟨v, (hA _ _ _ _ _ h1).wide (by omega) h3, fun j u hu => row_cell hr ?_⟩
  have := h5 j u hu
  rw [List.getElem?_append_left (List.getElem?_eq_some_iff.1 this).1]
  exact this
 ·refine row_cell hr ?_
  rw [List.getElem?_append_right (by omega), hx, Nat.sub_self]
  exact hsp
 ·refine row_cell hms ?_
  rw [List.getElem?_append_right (by simp)]
  simp
theorem mark_far {w6 w5 w7 : World} {H : Nat} {u1 u2 v5 : Value} {e0 o2 : Obj} (h5 : (((w6.setCell ⟨H + 1 + 1, 1, none⟩ u1).setCell ⟨H + 1 + 1, 1, none⟩ u2).alloc e0).grownBy w5 (some w6.heap.size)) (h7 : (w5.alloc o2).grownBy w7 v5.ownBlock)
  (a5 : v5.ownBlock = some w6.heap.size ∨ v5.ownBlock = some (w6.heap.size + 1)) (hH : H + 3 ≤ w6.heap.size) :
  (∀ b, b ≠ H + 2 → b < w6.heap.size → w7.heap[b]? = w6.heap[b]?) ∧ w7.heap[H + 2]? = ((w6.setCell ⟨H + 1 + 1, 1, none⟩ u1).setCell ⟨H + 1 + 1, 1, none⟩ u2).heap[H + 2]? ∧ w6.heap.size + 1 ≤ w7.heap.size ∧ Below (H + 2) w6 w7 := by
 have s5 := h5.size
 have s7 := h7.size
 have e6 : ((w6.setCell ⟨H + 1 + 1, 1, none⟩ u1).setCell ⟨H + 1 + 1, 1, none⟩ u2).heap.size = w6.heap.size := by simp [World.setCell]
 simp [World.setCell] at s5 s7
 have key : ∀ b, b < w6.heap.size → w7.heap[b]? = ((w6.setCell ⟨H + 1 + 1, 1, none⟩ u1).setCell ⟨H + 1 + 1, 1, none⟩ u2).heap[b]? := fun b hb => by
  rw [h7.block b (by simp; omega) (fun e => by rcases a5 with a | a <;> rw [a] at e <;> simp only [Option.some.injEq] at e <;> omega), Below.heap_alloc _ _ _ (by omega), h5.block b (by simp [World.setCell]; omega) (by simp only [ne_eq, Option.some.injEq]; omega), Below.heap_alloc _ _ _ (by rw [e6]; omega)]
 have key2 : ∀ b, b ≠ H + 2 → b < w6.heap.size → w7.heap[b]? = w6.heap[b]? := fun b hb hlt => by
  rw [key b hlt, Below.heap_setCell _ _ _ _ (by simpa using hb), Below.heap_setCell _ _ _ _ (by simpa using hb)]
 exact ⟨key2, key _ (by omega), by omega, h7.os.trans h5.os, h7.tape.trans h5.tape, h7.output.trans h5.output, by omega, fun b hb => key2 b (by omega) (by omega)⟩
def mark77 : Array Value := #[.int .i8 77, .slice none 0 0, .string ⟨#[]⟩, .string ⟨#[]⟩, .string ⟨#[]⟩, .slice none 0 0, .string ⟨#[]⟩, .string ⟨#[]⟩, .bool false]
theorem own_empty (w : World) (B : Nat) (hB : B ≤ w.heap.size) : (w.alloc (.cells #[] 9)).ownsRow B 9 1 (.slice (some ⟨w.heap.size, 0, none⟩) 0 0) 0 [] :=
 World.ownsRow_made w #[] 0 hB (by unfold maxLen; omega) rfl
theorem nine_all (k : Int) (KA : Option Addr) (kn kc : Nat) (ds vl st : List UInt8) (MA : Option Addr) (mn mc : Nat) (fn rl : List UInt8) (dn : Bool) :
  (#[Value.int .i8 k, .slice KA kn kc, .string ⟨ds.toArray⟩, .string ⟨vl.toArray⟩, .string ⟨st.toArray⟩, .slice MA mn mc, .string ⟨fn.toArray⟩, .string ⟨rl.toArray⟩, .bool dn] : Array Value).all (·.oneCell') = true := by simp [Value.oneCell']
def MarkEnd (n : Nat) (f : Flt) (w : World) (e : Ending) (w' : World) : Prop := ∃ v, e = .returned v ∧ MAt w' w.heap.size w'.heap.size n f v ∧ Below w.heap.size w w'
set_option maxHeartbeats 3200000 in
set_option maxRecDepth 100000 in
theorem mark_p : ∀ (fuel : Nat) (f : Flt) (v : Value) (w : World) (B : Nat), FAt false w 0 B fuel f v → B ≤ w.heap.size →
  Calls Tryz.prog 9 #[v] w (MarkEnd fuel f w) := by
 intro fuel
 induction fuel with
 | zero => intro f v w B h; exact h.elim
 | succ fuel ih =>
  intro f v w B hF hB
  obtain ⟨k, ks, ds, vl, st, ms, fn, rl, dn⟩ := f
  obtain ⟨KA, kc, MA, mc, rfl, hfit, hmA, hkA, _⟩ := hF
  have IH := Lib.hid ih
  have HF := Lib.hid hfit
  have HM := Lib.hid hmA
  have HK := Lib.hid hkA
  have hkn := hfit.kn1
  have hkc := hfit.kc0
  have hmn := hfit.mn1
  have hgb0 := fun o1 o2 o3 => (three_gb w o1 o2 o3).2.2
  clear ih hfit hmA hkA
  obtain ⟨i0, hi, hz0, hz1, hz2⟩ := info_parts infoFT
  obtain ⟨j0, hjT, hy0, hy1, hy2⟩ := info_parts infoST
  unfold flt
  clear hgb0
  go_enter Tryz.func9, Tryz.ntmps9
  go_wp2_with fail
  go_loopw [4] (fun i wr => ∃ (j : Nat) (kv : Value) (xs : List Value), j ≤ ks.length ∧ i = .int .i64 j ∧ Copying (fun w lo hi f v => MAt w lo hi fuel f v) w wr ks j ms none #[.int .i8 k, .slice KA ks.length kc, .string ⟨ds.toArray⟩, .string ⟨vl.toArray⟩, .string ⟨st.toArray⟩, .slice MA ms.length mc, .string ⟨fn.toArray⟩, .string ⟨rl.toArray⟩, .bool dn] (.int .i8 k) (.string ⟨ds.toArray⟩) (.string ⟨vl.toArray⟩) (.string ⟨st.toArray⟩) (.string ⟨fn.toArray⟩) (.string ⟨rl.toArray⟩) (.bool dn) kv (.slice MA ms.length mc) xs) (fun i _ => ks.length - (RowKit.intOf i).toNat)
  case atStart => exact ⟨0, _, [], Nat.zero_le _, rfl, Copying.start _ _ _ _ _ _ _ _ _ _ _ _ _⟩
  case round =>
   obtain ⟨j, kv, xs, hj, rfl, hL⟩ := hrel
   have HL := Lib.hid hL
   have hsz := hL.size
   have c1 : wr.cell? ⟨w.heap.size, 1, none⟩ = some (.slice KA ks.length kc) := by simp [World.cell?, hL.fb]
   by_cases hlt : j < ks.length
   ·obtain ⟨ad, rfl, _, hadB, hel⟩ := HK.out (by omega)
    have hke := List.getElem?_eq_getElem hlt
    generalize ks[j] = q at hke
    obtain ⟨fv, hfv, hcells⟩ := hel j _ hke
    obtain ⟨b0, b1, b2, b3, b4, b5, b6, b7, b8, rfl⟩ := (FAt.form hfv)
    have hfv' : FAt false wr 0 B fuel q (.agg #[b0, b1, b2, b3, b4, b5, b6, b7, b8]) := hfv.below (hL.below.mono hB)
    have HFV := Lib.hid hfv'
    obtain ⟨l0, l1, l2, l3, l4, l5, l6, l7, l8⟩ := nine_at (w := wr) (m := j * 9) (fun q u hu => ((hL.below.mono hB).cell (p := ad.add (j * 9 + q)) (by rw [RankLaw.add_block]; exact hadB)).trans (hcells q u hu))
    have HKE := Lib.hid hke
    have HRow := Lib.hid hL.row
    clear hel hfv hcells hL hfv' hke
    go_wp2_with (first
     | (go_at_call 9; (with_reducible refine (IH.out q _ wr B HFV.out (by omega)).mono ?_); rintro e w2 ⟨v2, rfl, hv2, hb2⟩; obtain ⟨k2, A2, n2, c2, s2, s3, s4, A5, n5, c5', s6, s7, x8, rfl⟩ := (FAt.formF hv2.at); have HV2 := Lib.hid hv2; have HB2 := Lib.hid hb2; have hsz2 := hb2.size; have hgb2 := (hb2.block (w.heap.size + 1 + 1) (by omega)).trans HL.out.gb; have d1 : ∀ o, (w2.alloc o).cell? ⟨w.heap.size + 1 + 1, 1, none⟩ = some kv := (fun o => by have := kb_alloc (o' := o) hgb2; simp [World.cell?, this]); clear hv2 hb2 hgb2)
     | (at_builtin; refine wpList_append_lies _ rfl (.tmp 22) (.tmp 24) _ rfl (w.heap.size + 3) 26 i0 _ 9 144 Tryz.underlying23 hi hz0 hz1 hz2 rfl (by decide) kv j xs rfl (((own_later HRow.out HB2.out).alloc _).alloc _) ⟨w2.heap.size + 1, 0, none⟩ 1 1 [.int .i8 k2, .slice A2 n2 c2, .string ⟨s2.toArray⟩, .string ⟨s3.toArray⟩, .string ⟨s4.toArray⟩, .slice A5 n5 c5', .string ⟨s6.toArray⟩, .string ⟨s7.toArray⟩, .bool x8] rfl rfl (news_new (w2.alloc _) #[.int .i8 k2, .slice A2 n2 c2, .string ⟨s2.toArray⟩, .string ⟨s3.toArray⟩, .string ⟨s4.toArray⟩, .slice A5 n5 c5', .string ⟨s6.toArray⟩, .string ⟨s7.toArray⟩, .bool x8] _ (by simp)) (nine_one _ _ _ _ _ _ _ _ _ _ _ _ _) (by decide) (by unfold maxLen; omega) (by omega) (by simp; omega) _ rfl ?_; intro g cap w4 hown4 hg4 hat4 hlt4; have hg4b := (HL.out.gb4 HB2.out ((World.grownBy_alloc _ _ _).trans (World.grownBy_alloc _ _ _)) hg4).1; have p1 : w4.cell? ⟨w.heap.size + 1 + 1, 1, none⟩ = some kv := (by simp [World.cell?, hg4b]); have p2 : w4.frozen? ⟨w.heap.size + 1 + 1, 1, none⟩ = false := (by simp [World.frozen?, hg4b]); have HO4 := Lib.hid hown4; have HG4 := Lib.hid hg4; have HAT4 := Lib.hid hat4; clear hown4 hg4 hat4 hg4b))
    go_round
    case rel => exact ⟨j + 1, _, _, by omega, by go_num, HL.out.kid (keeps_mark fuel) HKE.out HB2.out HV2.out ((World.grownBy_alloc _ _ _).trans (World.grownBy_alloc _ _ _)) HO4.out HG4.out HAT4.out⟩
    case measure => simp [RowKit.intOf]; omega
   ·have ej : j = ks.length := by omega
    subst ej
    have g1 : wr.cell? ⟨w.heap.size + 1 + 1, 1, none⟩ = some kv := by have := hL.gb; simp [World.cell?, this]
    have HRow := Lib.hid hL.row
    have hkb := fun o => (kb_alloc (o' := o) hL.gb)
    have hub : ∀ b, kv.ownBlock = some b → w.heap.size + 3 ≤ b ∧ b < wr.heap.size := fun b e => hL.row.lt b e
    have HUB := Lib.hid hub
    clear hL hub hkb hlt
    go_upto_region 9 with (at_builtin; refine wpList_append_lies _ rfl (.tmp 28) (.tmp 30) _ rfl (w.heap.size + 3) 26 i0 _ 9 144 Tryz.underlying23 hi hz0 hz1 hz2 rfl (by decide) kv ks.length xs rfl (HRow.out.alloc _) ⟨wr.heap.size, 0, none⟩ 1 1 mark77.toList rfl rfl (news_new wr mark77 _ rfl) (by simp [mark77, Value.oneCell']) (by decide) (by unfold maxLen; omega) (by omega) (by simp; omega) _ rfl ?_; intro g6 cap6 w6 hown6 hg6 hat6 hlt6; obtain ⟨hgb6, hfb6, hbw6⟩ := HL.out.gb4 (Below.refl _ _) (World.grownBy_alloc _ _ _) hg6; have p1 : w6.cell? ⟨w.heap.size + 1 + 1, 1, none⟩ = some kv := (by simp [World.cell?, hgb6]); have p2 : w6.frozen? ⟨w.heap.size + 1 + 1, 1, none⟩ = false := (by simp [World.frozen?, hgb6]); have hs6 := hg6.size; have hc6 := (row_form hown6).2.2.1; have hd6 := (row_form hown6).2.2.2; unfold maxLen at hd6; have HO6 := Lib.hid hown6; have HG6 := Lib.hid hg6; have HAT6 := Lib.hid hat6; have HGB6 := Lib.hid hgb6; have HFB6 := Lib.hid hfb6; have HBW6 := Lib.hid hbw6; clear hown6 hg6 hat6 hgb6 hfb6 hbw6)
    generalize hwa : w6.setCell ⟨w.heap.size + 1 + 1, 1, none⟩ (.slice (some ⟨g6, 0, none⟩) (ks.length + 1) cap6) = wa
    have hgba : wa.heap[w.heap.size + 1 + 1]? = some (.cells #[.int .i8 k, .slice (some ⟨g6, 0, none⟩) (ks.length + 1) cap6, .string ⟨ds.toArray⟩, .string ⟨vl.toArray⟩, .string ⟨st.toArray⟩, .slice MA ms.length mc, .string ⟨fn.toArray⟩, .string ⟨rl.toArray⟩, .bool dn] 26 (0, 0)) := by
     have := heap_setCell_same w6 (w.heap.size + 1 + 1) 1 _ _ (.slice (some ⟨g6, 0, none⟩) (ks.length + 1) cap6) HGB6.out
     rw [hwa] at this
     simpa using this
    have hfba : wa.heap[w.heap.size]? = some (.cells #[.int .i8 k, .slice KA ks.length kc, .string ⟨ds.toArray⟩, .string ⟨vl.toArray⟩, .string ⟨st.toArray⟩, .slice MA ms.length mc, .string ⟨fn.toArray⟩, .string ⟨rl.toArray⟩, .bool dn] 26 (0, 0)) := by rw [← hwa, Below.heap_setCell _ _ _ _ (by simp; omega)]; exact HFB6.out
    have q1 : wa.cell? ⟨w.heap.size + 1 + 1, 1, none⟩ = some (.slice (some ⟨g6, 0, none⟩) (ks.length + 1) cap6) := by simp [World.cell?, hgba]
    have q2 : wa.frozen? ⟨w.heap.size + 1 + 1, 1, none⟩ = false := by simp [World.frozen?, hgba]
    have q3 : wa.cell? ⟨w.heap.size, 5, none⟩ = some (.slice MA ms.length mc) := by simp [World.cell?, hfba]
    have q4 : wa.cell? ⟨w.heap.size, 1, none⟩ = some (.slice KA ks.length kc) := by simp [World.cell?, hfba]
    have HGBA := Lib.hid hgba
    have HFBA := Lib.hid hfba
    have HWA := Lib.hid hwa
    clear hwa hgba hfba p1 p2 g1 c1
    go_upto_region 10 with fail
    generalize hwb : wa.setCell ⟨w.heap.size + 1 + 1, 1, none⟩ (.slice (some ⟨g6, 0, none⟩) ks.length cap6) = wb
    have hgbb : wb.heap[w.heap.size + 1 + 1]? = some (.cells #[.int .i8 k, .slice (some ⟨g6, 0, none⟩) ks.length cap6, .string ⟨ds.toArray⟩, .string ⟨vl.toArray⟩, .string ⟨st.toArray⟩, .slice MA ms.length mc, .string ⟨fn.toArray⟩, .string ⟨rl.toArray⟩, .bool dn] 26 (0, 0)) := by
     have := heap_setCell_same wa (w.heap.size + 1 + 1) 1 _ _ (.slice (some ⟨g6, 0, none⟩) ks.length cap6) HGBA.out
     rw [hwb] at this
     simpa using this
    have hfbb : wb.heap[w.heap.size]? = some (.cells #[.int .i8 k, .slice KA ks.length kc, .string ⟨ds.toArray⟩, .string ⟨vl.toArray⟩, .string ⟨st.toArray⟩, .slice MA ms.length mc, .string ⟨fn.toArray⟩, .string ⟨rl.toArray⟩, .bool dn] 26 (0, 0)) := by rw [← hwb, Below.heap_setCell _ _ _ _ (by simp; omega)]; exact HFBA.out
    have hszb : wb.heap.size = w6.heap.size := by rw [← hwb, ← HWA.out]; simp [World.setCell]
    have hbwb : Below w.heap.size w wb := by rw [← hwb, ← HWA.out]; exact (HBW6.out.setCell (by simp; omega) _).setCell (by simp; omega) _
    have hrd := fun o => (rd_txts HM.out).below ((hbwb.alloc (by have := hbwb.size; omega) o).mono hB)
    have HRD := Lib.hid hrd
    have r3 : ∀ o, (wb.alloc o).cell? ⟨w.heap.size, 5, none⟩ = some (.slice MA ms.length mc) := fun o => by have := kb_alloc (o' := o) hfbb; simp [World.cell?, this]
    have hs6b : wr.heap.size + 1 ≤ w6.heap.size := by have := HG6.out.size; simpa using this
    have HWB := Lib.hid hwb
    have HGBB := Lib.hid hgbb
    have HFBB := Lib.hid hfbb
    have HSZB := Lib.hid hszb
    clear hwb hgbb hfbb hrd q1 q2 q3 q4 hszb
    go_upto_region 11 with (first
     | (at_builtin; (refine wpList_append_rd _ rfl (.tmp 40) (.tmp 42) _ rfl (w.heap.size + 3) 9 j0 _ 16 Tryz.underlying24 hjT hy0 hy1 hy2 rfl (.slice (some ⟨wb.heap.size, 0, none⟩) 0 0) 0 [] rfl (own_empty _ _ (by have := HSZB.out; omega)) B MA ms.length mc _ rfl (HRD.out _) (txts_one ms) (by unfold maxLen; omega) (by omega) (by have := HSZB.out; simp; omega) ?_; intro v5 w5 hown5 hg5 hat5; have HO5 := Lib.hid (show w5.ownsRow (w.heap.size + 3) 9 1 v5 ms.length (ms.map txt) by simpa using hown5); have HG5 := Lib.hid hg5; have HAT5 := Lib.hid hat5; have hs5 := hg5.size; clear hown5 hg5 hat5))
     | (at_builtin; (refine wpList_append_lies _ rfl (.tmp 43) (.tmp 44) _ rfl (w.heap.size + 3) 9 j0 _ 1 16 Tryz.underlying24 hjT hy0 hy1 hy2 rfl (by decide) v5 ms.length (ms.map txt) rfl (HO5.out.alloc _) ⟨w5.heap.size, 0, none⟩ 1 1 [.string ⟨#[35]⟩] rfl rfl (news_new w5 #[.string ⟨#[35]⟩] _ rfl) (by simp [Value.oneCell']) (by decide) (by unfold maxLen; omega) (by omega) (by have := HSZB.out; simp at hs5 ⊢; omega) _ rfl ?_; intro g7 cap7 w7 hown7 hg7 hat7 hlt7; have hc7 := (row_form hown7).2.2.1; have hd7 := (row_form hown7).2.2.2; unfold maxLen at hd7; have HO7 := Lib.hid hown7; have HG7 := Lib.hid hg7; have HAT7 := Lib.hid hat7; have hb7 := (mark_far (H := w.heap.size) (w6 := w6) (by rw [HWA.out, HWB.out]; rw [← HSZB.out]; exact HG5.out) hg7 (by rw [← HSZB.out]; exact HAT5.out.imp id fun e => by simpa using e) (by omega)); have HB7 := Lib.hid hb7; have hgb7 : w7.heap[w.heap.size + 1 + 1]? = some (.cells #[.int .i8 k, .slice (some ⟨g6, 0, none⟩) ks.length cap6, .string ⟨ds.toArray⟩, .string ⟨vl.toArray⟩, .string ⟨st.toArray⟩, .slice MA ms.length mc, .string ⟨fn.toArray⟩, .string ⟨rl.toArray⟩, .bool dn] 26 (0, 0)) := (by have := hb7.2.1; rw [HWA.out, HWB.out] at this; exact this.trans HGBB.out); have p1 : w7.cell? ⟨w.heap.size + 1 + 1, 5, none⟩ = some (.slice MA ms.length mc) := (by simp [World.cell?, hgb7]); have p2 : w7.frozen? ⟨w.heap.size + 1 + 1, 5, none⟩ = false := (by simp [World.frozen?, hgb7]); have HGB7 := Lib.hid hgb7; clear hown7 hg7 hat7 hgb7 hb7)))
    generalize hwc : w7.setCell ⟨w.heap.size + 1 + 1, 5, none⟩ (.slice (some ⟨g7, 0, none⟩) (ms.length + 1) cap7) = wc
    have hgbc : wc.heap[w.heap.size + 1 + 1]? = some (.cells #[.int .i8 k, .slice (some ⟨g6, 0, none⟩) ks.length cap6, .string ⟨ds.toArray⟩, .string ⟨vl.toArray⟩, .string ⟨st.toArray⟩, .slice (some ⟨g7, 0, none⟩) (ms.length + 1) cap7, .string ⟨fn.toArray⟩, .string ⟨rl.toArray⟩, .bool dn] 26 (0, 0)) := by
     have := heap_setCell_same w7 (w.heap.size + 1 + 1) 5 _ _ (.slice (some ⟨g7, 0, none⟩) (ms.length + 1) cap7) HGB7.out
     rw [hwc] at this
     simpa using this
    have hfbc : wc.heap[w.heap.size]? = some (.cells #[.int .i8 k, .slice KA ks.length kc, .string ⟨ds.toArray⟩, .string ⟨vl.toArray⟩, .string ⟨st.toArray⟩, .slice MA ms.length mc, .string ⟨fn.toArray⟩, .string ⟨rl.toArray⟩, .bool dn] 26 (0, 0)) := by rw [← hwc, Below.heap_setCell _ _ _ _ (by simp; omega), HB7.out.1 _ (by omega) (by omega)]; exact HFB6.out
    have q1 : wc.cell? ⟨w.heap.size + 1 + 1, 5, none⟩ = some (.slice (some ⟨g7, 0, none⟩) (ms.length + 1) cap7) := by simp [World.cell?, hgbc]
    have q2 : wc.frozen? ⟨w.heap.size + 1 + 1, 5, none⟩ = false := by simp [World.frozen?, hgbc]
    have q3 : wc.cell? ⟨w.heap.size, 5, none⟩ = some (.slice MA ms.length mc) := by simp [World.cell?, hfbc]
    have HGBC := Lib.hid hgbc
    have HWC := Lib.hid hwc
    clear hwc hgbc hfbc p1 p2 r3
    go_upto_region 12 with fail
    generalize hwd : wc.setCell ⟨w.heap.size + 1 + 1, 5, none⟩ (.slice (some ⟨g7, 0, none⟩) ms.length cap7) = wd
    have hgbd : wd.heap[w.heap.size + 1 + 1]? = some (.cells #[.int .i8 k, .slice (some ⟨g6, 0, none⟩) ks.length cap6, .string ⟨ds.toArray⟩, .string ⟨vl.toArray⟩, .string ⟨st.toArray⟩, .slice (some ⟨g7, 0, none⟩) ms.length cap7, .string ⟨fn.toArray⟩, .string ⟨rl.toArray⟩, .bool dn] 26 (0, 0)) := by
     have := heap_setCell_same wc (w.heap.size + 1 + 1) 5 _ _ (.slice (some ⟨g7, 0, none⟩) ms.length cap7) HGBC.out
     rw [hwd] at this
     simpa using this
    have hst : ∀ b, b ≠ w.heap.size + 1 + 1 → wd.heap[b]? = w7.heap[b]? := fun b hb => by rw [← hwd, Below.heap_setCell _ _ _ _ (by simpa using hb), ← HWC.out, Below.heap_setCell _ _ _ _ (by simpa using hb)]
    have hszd : wd.heap.size = w7.heap.size := by rw [← hwd, ← HWC.out]; simp [World.setCell]
    have hrbd : wd.heap[w.heap.size + 1]? = some (.cells blankT 26 (0, 0)) := by rw [hst _ (by omega), HB7.out.1 _ (by omega) (by omega), HG6.out.block _ (by simp; omega) (fun e => by have := HUB.out _ e.symm; omega), Below.heap_alloc _ _ _ (by omega)]; exact HL.out.rb
    have HGBD := Lib.hid hgbd
    have HRBD := Lib.hid hrbd
    have HST := Lib.hid hst
    have HWD := Lib.hid hwd
    clear hwd hgbd hst hrbd q1 q2 q3
    go_wp2_with (first
     | (refine wpList_load_row rfl 26 (.tmp 3) rfl (w.heap.size + 1 + 1) rfl 26 #[.int .i8 k, .slice (some ⟨g6, 0, none⟩) ks.length cap6, .string ⟨ds.toArray⟩, .string ⟨vl.toArray⟩, .string ⟨st.toArray⟩, .slice (some ⟨g7, 0, none⟩) ms.length cap7, .string ⟨fn.toArray⟩, .string ⟨rl.toArray⟩, .bool dn] (0, 0) _ HGBD.out Tryz.underlying26 rfl (by kernel_rfl) ?_)
     | (refine wpList_store_row rfl 26 (.tmp 2) (.tmp 54) rfl (w.heap.size + 1) #[.int .i8 k, .slice (some ⟨g6, 0, none⟩) ks.length cap6, .string ⟨ds.toArray⟩, .string ⟨vl.toArray⟩, .string ⟨st.toArray⟩, .slice (some ⟨g7, 0, none⟩) ms.length cap7, .string ⟨fn.toArray⟩, .string ⟨rl.toArray⟩, .bool dn] rfl rfl 26 blankT HRBD.out (by kernel_rfl) rfl (nine_all _ _ _ _ _ _ _ _ _ _ _ _ _) ?_))
    (try simp only [Exit.inBlock, Exit.then])
    refine bodyPost_ret (results_cell_row rfl _ _ (w.heap.size + 1) 26 _ (0, 0) _ rfl (setRow_heap _ _ _ _ _ _ HRBD.out) Tryz.underlying26 rfl (by kernel_rfl)) rfl ?_
    have hkids := HL.out.kids
    rw [List.take_length] at hkids
    have hs67 := HB7.out.2.2.1
    have hend := mark_end (dn := dn) (H := w.heap.size) (n := fuel) (wf := wd.setRow (w.heap.size + 1) #[.int .i8 k, .slice (some ⟨g6, 0, none⟩) ks.length cap6, .string ⟨ds.toArray⟩, .string ⟨vl.toArray⟩, .string ⟨st.toArray⟩, .slice (some ⟨g7, 0, none⟩) ms.length cap7, .string ⟨fn.toArray⟩, .string ⟨rl.toArray⟩, .bool dn]) (fun _ _ _ _ _ h => h) (keeps_mark fuel) HF.out hkids HL.out.row.1 (by rfl) HG6.out HAT6.out HO6.out (fun b h1 h2 => by rw [setRow_other _ _ _ _ (by omega), HST.out b (by omega), HB7.out.1 b (by omega) h2]) (by simp; omega) (own_blocks HO7.out fun b hb => by rw [setRow_other _ _ _ _ (by omega), HST.out b (by omega)])
    refine ⟨_, rfl, hend, ?_⟩
    refine ⟨?_, ?_, ?_, ?_, fun b hb => ?_⟩
    ·rw [← HWD.out, ← HWC.out]; exact HB7.out.2.2.2.os.trans HBW6.out.os
    ·rw [← HWD.out, ← HWC.out]; exact HB7.out.2.2.2.tape.trans HBW6.out.tape
    ·rw [← HWD.out, ← HWC.out]; exact HB7.out.2.2.2.output.trans HBW6.out.output
    ·have := HBW6.out.size; simp; omega
    ·rw [setRow_other _ _ _ _ (by omega), HST.out b (by omega), HB7.out.1 b (by omega) (by omega)]; exact HBW6.out.block b hb
end Go.Proofs.YtdkfmckbeagenaaGreatDoor

namespace Go.Proofs.YtdkfmckbeagenaaGreatDoor
open Go.RowKit Go.FltLaw Go.Lib Go.RankLaw

set_option maxHeartbeats 3200000 in
set_option maxRecDepth 100000 in
theorem marked_p : ∀ (fuel : Nat) (f : Flt) (v : Value) (w : World) (lo hi : Nat), MAt w lo hi fuel f v → hi ≤ w.heap.size →
  Calls Tryz.prog 28 #[v] w fun e w' => e = .returned (.bool true) ∧ Below w.heap.size w w' := by
 intro fuel
 induction fuel with
 | zero => intro f v w lo hi h; exact h.elim
 | succ fuel ih =>
  intro f v w lo hi hF hh
  obtain ⟨k, ks, ds, vl, st, ms, fn, rl, dn⟩ := f
  obtain ⟨kb, kc, mb, mc, rfl, hfit, k1, k2, m1, m2, c1, c2, hm, hk, x1, x2⟩ := hF
  have b1 := hfit.kn1
  have b2 := hfit.mn1
  have b3 := hfit.kc1
  have b4 := hfit.mc1
  unfold maxLen at b3 b4
  have IH := Lib.hid ih
  have HK := Lib.hid hk
  have hbo : ∀ o, Below w.heap.size w (w.alloc o) := fun o => (Below.refl _ _).alloc (Nat.le_refl _) o
  have HBO := Lib.hid hbo
  have y1 := fun o => ((hbo o).cell (p := ⟨kb, ks.length * 9, none⟩) (by show kb < _; omega)).trans x1
  have y2 := fun o => ((hbo o).cell (p := ⟨mb, ms.length, none⟩) (by show mb < _; omega)).trans x2
  unfold txt at y2
  have hfb := fun o => heap_alloc_new w o
  have HFB := Lib.hid hfb
  obtain ⟨N, hN⟩ : ∃ N, ks.length = N := ⟨_, rfl⟩
  obtain ⟨M, hM⟩ : ∃ M, ms.length = M := ⟨_, rfl⟩
  unfold flt
  rw [hN] at b1 c1 y1 ⊢
  rw [hM] at b2 c2 y2 ⊢
  have HN := Lib.hid hN
  have t1 : (N : Int) < (N : Int) + 1 := by omega
  have t2 : (M : Int) < (M : Int) + 1 := by omega
  have t3 : decide ((N : Int) + 1 ≤ (N : Int)) = false := by simp; omega
  have t4 : decide ((M : Int) + 1 ≤ (M : Int)) = false := by simp; omega
  clear ih hfit hm hk x1 x2 hbo hfb hN hM
  go_enter Tryz.func28, Tryz.ntmps28
  go_wp2_with fail
  go_quiet (fail)
  go_wp2_with fail
  go_loopw [3] (fun i wr => ∃ (j : Nat), j ≤ N ∧ i = .int .i64 j ∧ Below w.heap.size w wr ∧ wr.heap[w.heap.size]? = some (.cells #[.int .i8 k, .slice (some ⟨kb, 0, none⟩) N kc, .string ⟨ds.toArray⟩, .string ⟨vl.toArray⟩, .string ⟨st.toArray⟩, .slice (some ⟨mb, 0, none⟩) M mc, .string ⟨fn.toArray⟩, .string ⟨rl.toArray⟩, .bool dn] 26 (0, 0))) (fun i _ => N - (RowKit.intOf i).toNat)
  case atStart => exact ⟨0, Nat.zero_le _, rfl, below_dn (HBO.out _) _, HFB.out _⟩
  case round =>
   obtain ⟨j, hj, rfl, hbw, hbx⟩ := hrel
   have HBW := Lib.hid hbw
   have HBX := Lib.hid hbx
   have hsz : w.heap.size + 1 ≤ wr.heap.size := by have := (Array.getElem?_eq_some_iff.1 hbx).1; omega
   have c0 : wr.cell? ⟨w.heap.size, 1, none⟩ = some (.slice (some ⟨kb, 0, none⟩) N kc) := by simp [World.cell?, hbx]
   clear y1 y2
   by_cases hlt : j < N
   ·have hke := List.getElem?_eq_getElem (l := ks) (i := j) (by rw [HN.out]; exact hlt)
    generalize ks[j]'(by rw [HN.out]; exact hlt) = q at hke
    obtain ⟨fv, hfv, hcells⟩ := HK.out j q hke
    obtain ⟨kA, kc2, mA, mc2, kq, ksq, q2, q3, q4, msq, q6, q7, xq, hqe, rfl, _⟩ := FAtS.formF (FAtS.of hfv.at)
    have hcw : ∀ i u, (Value.agg #[.int .i8 kq, .slice kA ksq.length kc2, .string ⟨q2.toArray⟩, .string ⟨q3.toArray⟩, .string ⟨q4.toArray⟩, .slice mA msq.length mc2, .string ⟨q6.toArray⟩, .string ⟨q7.toArray⟩, .bool xq]).cells[i]? = some u → wr.cell? ⟨kb, j * 9 + i, none⟩ = some u := fun i u hu => (hbw.cell (p := ⟨kb, j * 9 + i, none⟩) (by show kb < _; omega)).trans (hcells i u hu)
    obtain ⟨l0, l1, l2, l3, l4, l5, l6, l7, l8⟩ : wr.cell? ⟨kb, j * 9, none⟩ = some (.int .i8 kq) ∧ wr.cell? ⟨kb, j * 9 + 1, none⟩ = some (.slice kA ksq.length kc2) ∧ wr.cell? ⟨kb, j * 9 + 2, none⟩ = some (.string ⟨q2.toArray⟩) ∧ wr.cell? ⟨kb, j * 9 + 3, none⟩ = some (.string ⟨q3.toArray⟩) ∧ wr.cell? ⟨kb, j * 9 + 4, none⟩ = some (.string ⟨q4.toArray⟩) ∧ wr.cell? ⟨kb, j * 9 + 5, none⟩ = some (.slice mA msq.length mc2) ∧ wr.cell? ⟨kb, j * 9 + 6, none⟩ = some (.string ⟨q6.toArray⟩) ∧ wr.cell? ⟨kb, j * 9 + 7, none⟩ = some (.string ⟨q7.toArray⟩) ∧ wr.cell? ⟨kb, j * 9 + 8, none⟩ = some (.bool xq) :=
     ⟨hcw 0 _ rfl, hcw 1 _ rfl, hcw 2 _ rfl, hcw 3 _ rfl, hcw 4 _ rfl, hcw 5 _ rfl, hcw 6 _ rfl, hcw 7 _ rfl, hcw 8 _ rfl⟩
    have HFV := Lib.hid (MAt.keep (w' := wr) (fun b _ h2 => hbw.block b (by omega)) hfv)
    clear hcw hcells hfv hqe hke hbw hbx
    go_wp2_with (go_at_call 28; (with_reducible refine (IH.out q _ wr lo hi HFV.out (by omega)).mono ?_); rintro e w2 ⟨rfl, hb2⟩; have HB2 := Lib.hid hb2; clear hb2)
    go_round
    case rel => exact ⟨j + 1, by omega, by go_num, HBW.out.trans (HB2.out.mono (by omega)), (HB2.out.block _ (by omega)).trans HBX.out⟩
    case measure => simp [RowKit.intOf]; omega
   ·clear hbx
    go_wp2_with fail
    go_ret
    exact ⟨rfl, hbw⟩
set_option maxHeartbeats 1600000 in
set_option maxRecDepth 100000 in
theorem kept_p (fuel : Nat) (f : Flt) (v v' : Value) (w : World) (lo hi B' : Nat) (hF : MAt w lo hi fuel f v) (hG : FAt false w 0 B' fuel f v') (hh : hi ≤ w.heap.size) (hB' : B' ≤ w.heap.size) :
  Calls Tryz.prog 13 #[v, v'] w fun e w' => e = .returned (.bool true) ∧ Below w.heap.size w w' := by
 have HF := Lib.hid hF
 have HG := Lib.hid hG
 obtain ⟨k2, A2, m2, c2', s2, s3, s4, A5, m5, q5, s6, s7, x8, rfl⟩ := (FAt.formF hF.at)
 obtain ⟨k2', A2', m2', c3', s2', s3', s4', A5', m5', q5', s6', s7', x8', rfl⟩ := (FAt.formF hG)
 have HP := Lib.hid (pair_start w #[.int .i8 k2, .slice A2 m2 c2', .string ⟨s2.toArray⟩, .string ⟨s3.toArray⟩, .string ⟨s4.toArray⟩, .slice A5 m5 q5, .string ⟨s6.toArray⟩, .string ⟨s7.toArray⟩, .bool x8]
  #[.int .i8 k2', .slice A2' m2' c3', .string ⟨s2'.toArray⟩, .string ⟨s3'.toArray⟩, .string ⟨s4'.toArray⟩, .slice A5' m5' q5', .string ⟨s6'.toArray⟩, .string ⟨s7'.toArray⟩, .bool x8'])
 clear hF hG
 go_enter Tryz.func13, Tryz.ntmps13
 go_upto_region 1 with fail
 generalize hw1 : (w.alloc (.cells #[.int .i8 k2, .slice A2 m2 c2', .string ⟨s2.toArray⟩, .string ⟨s3.toArray⟩, .string ⟨s4.toArray⟩, .slice A5 m5 q5, .string ⟨s6.toArray⟩, .string ⟨s7.toArray⟩, .bool x8] 26)).alloc
  (.cells #[.int .i8 k2', .slice A2' m2' c3', .string ⟨s2'.toArray⟩, .string ⟨s3'.toArray⟩, .string ⟨s4'.toArray⟩, .slice A5' m5' q5', .string ⟨s6'.toArray⟩, .string ⟨s7'.toArray⟩, .bool x8'] 26) = w1 at HP ⊢
 clear hw1
 obtain ⟨⟨a0, a1, a2, a3, a4, a5, a6, a7, a8⟩, d0, d1, d2, d3, d4, d5, d6, d7, d8⟩ := HP.out.nine
 have hsz := HP.out.size
 go_wp2_with (first
  | (go_at_call 11; (with_reducible refine (same16 fuel f _ _ w1 hi B' ((HF.out.keep (fun b _ h2 => HP.out.below.block b (by omega))).at.wide (Nat.zero_le _) (Nat.le_refl _)) (HG.out.below (HP.out.below.mono hB')) (by omega) (by omega)).mono ?_); rintro e w2 ⟨rfl, hb2⟩; have HP2 := Lib.hid (HP.out.later (hb2.mono hsz)); obtain ⟨⟨e0, e1, e2, e3, e4, e5, e6, e7, e8⟩, -⟩ := HP2.out.nine; have hsz2 := HP2.out.size; clear hb2)
  | (go_at_call 28; (with_reducible refine (marked_p fuel f _ w2 lo hi (HF.out.keep (fun b _ h2 => HP2.out.below.block b (by omega))) (by omega)).mono ?_); rintro e w3 ⟨rfl, hb3⟩; have HB3 := Lib.hid (HP2.out.below.trans (hb3.mono (by omega))); clear hb3))
 go_ret
 exact ⟨rfl, HB3.out⟩
end Go.Proofs.YtdkfmckbeagenaaGreatDoor

namespace Go.Proofs.YtdkfmckbeagenaaGreatDoor
open Go.RowKit Go.FltLaw Go.Lib Go.RankLaw

theorem Copying.start2 (A : World → Nat → Nat → Flt → Value → Prop) (w : World) (ks : List Flt) (ms : List (List UInt8)) (box : Array Value) (a0 a2 a3 a4 a6 a7 a8 : Value) :
  Copying A w (((w.alloc (.cells box 26)).alloc (.cells blankT 26)).alloc (.cells #[a0, .slice none 0 0, a2, a3, a4, .slice none 0 0, a6, a7, a8] 26)) ks 0 ms (some 0) box a0 a2 a3 a4 a6 a7 a8 (.slice none 0 0) (.slice none 0 0) [] := by
 obtain ⟨h1, h2, h3⟩ := three_gb w (.cells box 26) (.cells blankT 26) (.cells #[a0, .slice none 0 0, a2, a3, a4, .slice none 0 0, a6, a7, a8] 26)
 refine ⟨(((Below.refl _ _).alloc (Nat.le_refl _) _).alloc (by simp) _).alloc (by simp; omega) _, h1, h2, h3, World.ownsRow_nil _ _ _ _, KidsG.none _ _ _ _ _ _, fun t h => ?_⟩
 simp only [Option.some.injEq] at h
 subst h
 exact ⟨World.ownsRow_nil _ _ _ _, fun b h => by cases h⟩
section
variable {A : World → Nat → Nat → Flt → Value → Prop} {w wr w4 : World} {ks : List Flt} {j t g cap : Nat} {ms : List (List UInt8)} {box : Array Value} {a0 a2 a3 a4 a6 a7 a8 kv mv : Value} {xs : List Value} {o : Obj} {u : List UInt8}
theorem Copying.pieces (h : Copying A w wr ks 0 ms (some t) box a0 a2 a3 a4 a6 a7 a8 (.slice none 0 0) mv []) (hg : (wr.alloc o).grownBy w4 mv.ownBlock) :
  w4.heap[w.heap.size + 1 + 1]? = some (.cells #[a0, .slice none 0 0, a2, a3, a4, mv, a6, a7, a8] 26 (0, 0)) ∧ (∀ b, b < w.heap.size + 3 → w4.heap[b]? = wr.heap[b]?) ∧ Below (w.heap.size + 3) wr w4 := by
 have hsz := h.size
 have hs4 := hg.size
 simp at hs4
 obtain ⟨h1, _⟩ := h.mrow t rfl
 have keep : ∀ b, b < w.heap.size + 3 → w4.heap[b]? = wr.heap[b]? := fun b hb => by
  rw [hg.block b (by simp; omega) (fun e => by have := h1.lt b e.symm; omega), Below.heap_alloc _ _ _ (by omega)]
 exact ⟨by rw [keep _ (by omega)]; exact h.gb, keep, hg.os, hg.tape, hg.output, by omega, keep⟩
theorem Copying.text (h : Copying A w wr ks 0 ms (some t) box a0 a2 a3 a4 a6 a7 a8 (.slice none 0 0) mv []) (hu : ms[t]? = some u) (hg : (wr.alloc o).grownBy w4 mv.ownBlock)
  (ho : w4.ownsRow (w.heap.size + 3) 9 1 (.slice (some ⟨g, 0, none⟩) (t + 1) cap) (t + 1) ((ms.take t).map txt ++ [txt u])) :
  Copying A w (w4.setCell ⟨w.heap.size + 1 + 1, 5, none⟩ (.slice (some ⟨g, 0, none⟩) (t + 1) cap)) ks 0 ms (some (t + 1)) box a0 a2 a3 a4 a6 a7 a8 (.slice none 0 0) (.slice (some ⟨g, 0, none⟩) (t + 1) cap) [] := by
 have hsz := h.size
 obtain ⟨g4, keep, hb4⟩ := h.pieces hg
 have hs4 := hb4.size
 have st : ∀ b, b ≠ w.heap.size + 1 + 1 → (w4.setCell ⟨w.heap.size + 1 + 1, 5, none⟩ (.slice (some ⟨g, 0, none⟩) (t + 1) cap)).heap[b]? = w4.heap[b]? := fun b hb' => Below.heap_setCell _ _ _ _ (by simpa using hb')
 refine ⟨(h.below.trans (hb4.mono (by omega))).setCell (by simp; omega) _, ?_, ?_, ?_, World.ownsRow_nil _ _ _ _, KidsG.none _ _ _ _ _ _, fun t' ht => ?_⟩
 ·rw [st _ (by omega), keep _ (by omega)]; exact h.fb
 ·rw [st _ (by omega), keep _ (by omega)]; exact h.rb
 ·have := heap_setCell_same w4 (w.heap.size + 1 + 1) 5 _ _ (.slice (some ⟨g, 0, none⟩) (t + 1) cap) g4
  simpa using this
 ·simp only [Option.some.injEq] at ht
  subst ht
  refine ⟨own_blocks (by rw [List.take_add_one, hu, List.map_append]; exact ho) fun b hb' => st b (by omega), fun b _ e => by cases e⟩
end
theorem copy_at {w : World} {H n : Nat} {k : Int} {ks : List Flt} {kc0 mc0 : Nat} {ds vl st : List UInt8} {ms : List (List UInt8)} {fn rl : List UInt8} {dn : Bool} {xs : List Value} {rb : Option Nat} {kv mv : Value}
  (hf : Fits k ks.length kc0 ds vl st ms mc0 fn rl) (hk : KidsG (fun w lo hi f v => FAt false w lo hi n f v) w H ks rb xs) (hrow : w.ownsRow H 26 9 kv ks.length xs) (hms : w.ownsRow H 9 1 mv ms.length (ms.map txt)) :
  FAt false w H w.heap.size (n + 1) (.mk k ks ds vl st ms fn rl dn) (.agg #[.int .i8 k, kv, .string ⟨ds.toArray⟩, .string ⟨vl.toArray⟩, .string ⟨st.toArray⟩, mv, .string ⟨fn.toArray⟩, .string ⟨rl.toArray⟩, .bool dn]) := by
 obtain ⟨KA, kc, rfl, k1, k2, k3⟩ := own_slice hrow
 obtain ⟨MA, mc, rfl, m1, m2, m3⟩ := own_slice hms
 refine ⟨KA, kc, MA, mc, rfl, ⟨hf.k0, hf.k1, k1, k2, hf.kn1, hf.ds1, hf.vl1, hf.st1, m1, m2, hf.mn1, hf.ms1, hf.fn1, hf.rl1⟩, fun h0 => ?_, fun h0 => ?_, fun h => by cases h⟩
 ·obtain ⟨g, e1, e2, e3, e4⟩ := m3 h0
  exact ⟨_, e1, e2, e3, fun j u hu => e4 j (txt u) (by rw [List.getElem?_map, hu]; rfl)⟩
 ·obtain ⟨g, e1, e2, e3, e4⟩ := k3 h0
  refine ⟨_, e1, e2, e3, fun i f hi => ?_⟩
  obtain ⟨v, lo, hi', h1, h2, h3, h4, h5⟩ := hk i f hi
  exact ⟨v, h1.wide h2 h3, fun j u hu => e4 _ u (h5 j u hu)⟩
theorem one_new (w : World) (x : Value) (t : TypeId) : ∀ j u, [x][j]? = some u → (w.alloc (.cells #[x] t)).cell? ((⟨w.heap.size, 0, none⟩ : Addr).add j) = some u := news_new w #[x] t rfl
set_option maxHeartbeats 3200000 in
set_option maxRecDepth 100000 in
theorem rtwin_p : ∀ (fuel : Nat) (f : Flt) (v : Value) (w : World) (B : Nat), FAt false w 0 B fuel f v → B ≤ w.heap.size →
  Calls Tryz.prog 38 #[v] w (Twin1 fuel f w) := by
 intro fuel
 induction fuel with
 | zero => intro f v w B h; exact h.elim
 | succ fuel ih =>
  intro f v w B hF hB
  obtain ⟨k, ks, ds, vl, st, ms, fn, rl, dn⟩ := f
  obtain ⟨KA, kc, MA, mc, rfl, hfit, hmA, hkA, _⟩ := hF
  have IH := Lib.hid ih
  have HF := Lib.hid hfit
  have HM := Lib.hid hmA
  have HK := Lib.hid hkA
  have hkn := hfit.kn1
  have hkc := hfit.kc0
  have hmn := hfit.mn1
  have hmc := hfit.mc0
  clear ih hfit hmA hkA
  obtain ⟨i0, hi, hz0, hz1, hz2⟩ := info_parts infoFT
  obtain ⟨j0, hjT, hy0, hy1, hy2⟩ := info_parts infoST
  unfold flt
  go_enter Tryz.func38, Tryz.ntmps38
  go_wp2_with fail
  go_loopw [4] (fun i wr => ∃ (t : Nat) (mv : Value), t ≤ ms.length ∧ i = .int .i64 t ∧ Copying (fun w lo hi f v => FAt false w lo hi fuel f v) w wr ks 0 ms (some t) #[.int .i8 k, .slice KA ks.length kc, .string ⟨ds.toArray⟩, .string ⟨vl.toArray⟩, .string ⟨st.toArray⟩, .slice MA ms.length mc, .string ⟨fn.toArray⟩, .string ⟨rl.toArray⟩, .bool dn] (.int .i8 k) (.string ⟨ds.toArray⟩) (.string ⟨vl.toArray⟩) (.string ⟨st.toArray⟩) (.string ⟨fn.toArray⟩) (.string ⟨rl.toArray⟩) (.bool dn) (.slice none 0 0) mv []) (fun i _ => ms.length - (RowKit.intOf i).toNat)
  case atStart => exact ⟨0, _, Nat.zero_le _, rfl, Copying.start2 _ _ _ _ _ _ _ _ _ _ _ _⟩
  case round =>
   obtain ⟨t, mv, ht, rfl, hL⟩ := hrel
   have HL := Lib.hid hL
   have hsz := hL.size
   have c5 : wr.cell? ⟨w.heap.size, 5, none⟩ = some (.slice MA ms.length mc) := by simp [World.cell?, hL.fb]
   have g5 : wr.cell? ⟨w.heap.size + 1 + 1, 5, none⟩ = some mv := by have := hL.gb; simp [World.cell?, this]
   by_cases hlt : t < ms.length
   ·obtain ⟨ad, rfl, _, hadB, hel⟩ := HM.out (by omega)
    have hke := List.getElem?_eq_getElem hlt
    generalize ms[t] = q at hke
    have m0 := ((hL.below.mono hB).cell (p := ad.add t) (by rw [RankLaw.add_block]; exact hadB)).trans (hel t q hke)
    unfold txt at m0
    have HKE := Lib.hid hke
    have hD := hL.draw (keeps_at fuel) ((Below.refl _ wr).drew)
    have HD := Lib.hid hD
    have HMR := Lib.hid (hD.mrow t rfl).1
    have g5' : ∀ o, (wr.drew.alloc o).cell? ⟨w.heap.size + 1 + 1, 5, none⟩ = some mv := fun o => by have := kb_alloc (o' := o) hD.gb; simp [World.cell?, this]
    have g5'' : ∀ o, (wr.alloc o).cell? ⟨w.heap.size + 1 + 1, 5, none⟩ = some mv := fun o => by have := kb_alloc (o' := o) hL.gb; simp [World.cell?, this]
    have hlt2 : (t : Int) < (ms.length : Int) := by omega
    clear hel hke hL hD
    go_upto_region 7 with fail
    go_region_law (refine step_append_lies _ (by rfl) _ _ _ (by rfl) (w.heap.size + 3) 9 j0 _ 1 16 Tryz.underlying24 hjT hy0 hy1 hy2 rfl (by omega) mv t ((ms.take t).map txt) (by rfl) (HMR.out.alloc _) ⟨wr.heap.size, 0, none⟩ 1 1 [.string ⟨q.toArray⟩] (by rfl) (by rfl) (one_new wr.drew _ _) (by simp [Value.oneCell']) (by omega) (by unfold maxLen; omega) (by omega) (by simp; omega) (wr.heap.size + 1) (by simp) ?_; intro g cap w4 ho4 hg4 hat4 hlt4; have HO4 := Lib.hid ho4; have HG4 := Lib.hid hg4; have hgb4 := (HD.out.pieces hg4).1; have p1 : w4.cell? ⟨w.heap.size + 1 + 1, 5, none⟩ = some mv := (by simp [World.cell?, hgb4]); have p2 : w4.frozen? ⟨w.heap.size + 1 + 1, 5, none⟩ = false := (by simp [World.frozen?, hgb4]); clear ho4 hg4 hat4 hlt4 hgb4)
    all_goals
     go_wp2_with fail
     go_round
     case rel => exact ⟨t + 1, _, by omega, by go_num, HD.out.text HKE.out HG4.out HO4.out⟩
     case measure => simp [RowKit.intOf]; omega
   ·have et : t = ms.length := by omega
    subst et
    go_wp2_with fail
    go_loopw [5] (fun i wr => ∃ (j : Nat) (kv : Value) (xs : List Value), j ≤ ks.length ∧ i = .int .i64 j ∧ Copying (fun w lo hi f v => FAt false w lo hi fuel f v) w wr ks j ms (some ms.length) #[.int .i8 k, .slice KA ks.length kc, .string ⟨ds.toArray⟩, .string ⟨vl.toArray⟩, .string ⟨st.toArray⟩, .slice MA ms.length mc, .string ⟨fn.toArray⟩, .string ⟨rl.toArray⟩, .bool dn] (.int .i8 k) (.string ⟨ds.toArray⟩) (.string ⟨vl.toArray⟩) (.string ⟨st.toArray⟩) (.string ⟨fn.toArray⟩) (.string ⟨rl.toArray⟩) (.bool dn) kv mv xs) (fun i _ => ks.length - (RowKit.intOf i).toNat)
    case atStart => exact ⟨0, _, _, Nat.zero_le _, rfl, HL.out⟩
    case round =>
     clear HL hL c5 g5 hsz
     obtain ⟨j, kv, xs, hj, rfl, hL⟩ := hrel
     have HL := Lib.hid hL
     have hsz := hL.size
     have c1 : wr.cell? ⟨w.heap.size, 1, none⟩ = some (.slice KA ks.length kc) := by simp [World.cell?, hL.fb]
     by_cases hlt : j < ks.length
     ·obtain ⟨ad, rfl, _, hadB, hel⟩ := HK.out (by omega)
      have hke := List.getElem?_eq_getElem hlt
      generalize ks[j] = q at hke
      obtain ⟨fv, hfv, hcells⟩ := hel j _ hke
      obtain ⟨b0, b1, b2, b3, b4, b5, b6, b7, b8, rfl⟩ := (FAt.form hfv)
      have hfv' : FAt false wr.drew 0 B fuel q (.agg #[b0, b1, b2, b3, b4, b5, b6, b7, b8]) := FAt.keep (w := wr) (w' := wr.drew) (fun _ _ _ => rfl) (hfv.below (hL.below.mono hB))
      have HFV := Lib.hid hfv'
      obtain ⟨l0, l1, l2, l3, l4, l5, l6, l7, l8⟩ := nine_at (w := wr) (m := j * 9) (fun q u hu => ((hL.below.mono hB).cell (p := ad.add (j * 9 + q)) (by rw [RankLaw.add_block]; exact hadB)).trans (hcells q u hu))
      have g1 : wr.cell? ⟨w.heap.size + 1 + 1, 1, none⟩ = some kv := by have := hL.gb; simp [World.cell?, this]
      have HKE := Lib.hid hke
      have HRow := Lib.hid hL.row
      have HGB := Lib.hid hL.gb
      have hlt2 : (j : Int) < (ks.length : Int) := by omega
      clear hel hfv hcells hL hfv' hke
      go_upto_region 11 with fail
      go_region_law (first
       | (refine step_append_lies _ (by rfl) _ _ _ (by rfl) (w.heap.size + 3) 26 i0 _ 9 144 Tryz.underlying23 hi hz0 hz1 hz2 rfl (by omega) kv j xs (by rfl) ((own_later HRow.out HB2.out).alloc _) ⟨w2.heap.size, 0, none⟩ 1 1 [.int .i8 k2, .slice A2 n2 c2, .string ⟨s2.toArray⟩, .string ⟨s3.toArray⟩, .string ⟨s4.toArray⟩, .slice A5 n5 c5', .string ⟨s6.toArray⟩, .string ⟨s7.toArray⟩, .bool x8] (by rfl) (by rfl) (news_new w2 #[.int .i8 k2, .slice A2 n2 c2, .string ⟨s2.toArray⟩, .string ⟨s3.toArray⟩, .string ⟨s4.toArray⟩, .slice A5 n5 c5', .string ⟨s6.toArray⟩, .string ⟨s7.toArray⟩, .bool x8] _ rfl) (nine_one _ _ _ _ _ _ _ _ _ _ _ _ _) (by omega) (by unfold maxLen; omega) (by omega) (by simp; omega) (w2.heap.size + 1) (by simp) ?_; intro g cap w4 ho4 hg4 hat4 hlt4; have HO4 := Lib.hid ho4; have HG4 := Lib.hid hg4; have HAT4 := Lib.hid hat4; have hgb4 := (HL.out.gb4 HB2.out (World.grownBy_alloc _ _ _) hg4).1; have p1 : w4.cell? ⟨w.heap.size + 1 + 1, 1, none⟩ = some kv := (by simp [World.cell?, hgb4]); have p2 : w4.frozen? ⟨w.heap.size + 1 + 1, 1, none⟩ = false := (by simp [World.frozen?, hgb4]); clear ho4 hg4 hat4 hlt4 hgb4)
       | (go_simp; go_at_call 38; (with_reducible refine (IH.out q _ _ B HFV.out (by simp; omega)).mono ?_); rintro e w2 ⟨v2, rfl, hv2, hb2⟩; obtain ⟨k2, A2, n2, c2, s2, s3, s4, A5, n5, c5', s6, s7, x8, rfl⟩ := (FAt.formF hv2); have HV2 := Lib.hid hv2; have HB2 := Lib.hid ((Below.refl wr.heap.size wr).drew.trans hb2); have hsz2 : wr.heap.size ≤ w2.heap.size := (by simpa using hb2.size); have hq2 := (HB2.out.block (w.heap.size + 1 + 1) (by omega)).trans HGB.out; have q3 : w2.cell? ⟨w.heap.size + 1 + 1, 1, none⟩ = some kv := (by simp [World.cell?, hq2]); have q3' : ∀ o, (w2.alloc o).cell? ⟨w.heap.size + 1 + 1, 1, none⟩ = some kv := (fun o => by have := kb_alloc (o' := o) hq2; simp [World.cell?, this]); clear hv2 hb2 hq2; dsimp only))
      all_goals
       go_wp2_with fail
       go_round
       case rel => exact ⟨j + 1, _, _, by omega, by go_num, HL.out.kid (keeps_at fuel) HKE.out HB2.out HV2.out (World.grownBy_alloc _ _ _) HO4.out HG4.out (HAT4.out.imp id fun e => by simpa using e)⟩
       case measure => simp [RowKit.intOf]; omega
     ·have ej : j = ks.length := by omega
      subst ej
      obtain ⟨AK, capK, rfl, _, _, _⟩ := own_slice hL.row
      obtain ⟨AM, capM, rfl, _, _, _⟩ := own_slice (hL.mrow _ rfl).1
      have HGB := Lib.hid (show wr.heap[w.heap.size + 1 + 1]? = _ from hL.gb)
      have HRB := Lib.hid hL.rb
      clear hL
      go_wp2_with (first
       | (refine wpList_load_row rfl 26 (.tmp 3) rfl (w.heap.size + 1 + 1) rfl 26 #[.int .i8 k, .slice AK ks.length capK, .string ⟨ds.toArray⟩, .string ⟨vl.toArray⟩, .string ⟨st.toArray⟩, .slice AM ms.length capM, .string ⟨fn.toArray⟩, .string ⟨rl.toArray⟩, .bool dn] (0, 0) _ HGB.out Tryz.underlying26 rfl (by kernel_rfl) ?_)
       | (refine wpList_store_row rfl 26 (.tmp 2) (.tmp 44) rfl (w.heap.size + 1) #[.int .i8 k, .slice AK ks.length capK, .string ⟨ds.toArray⟩, .string ⟨vl.toArray⟩, .string ⟨st.toArray⟩, .slice AM ms.length capM, .string ⟨fn.toArray⟩, .string ⟨rl.toArray⟩, .bool dn] rfl rfl 26 blankT HRB.out (by kernel_rfl) rfl (nine_all _ _ _ _ _ _ _ _ _ _ _ _ _) ?_))
      (try simp only [Exit.inBlock, Exit.then])
      refine bodyPost_ret (results_cell_row rfl _ _ (w.heap.size + 1) 26 _ (0, 0) _ rfl (setRow_heap _ _ _ _ _ _ HRB.out) Tryz.underlying26 rfl (by kernel_rfl)) rfl ?_
      have hkids := HL.out.kids
      rw [List.take_length] at hkids
      have far : ∀ b, w.heap.size + 3 ≤ b → (wr.setRow (w.heap.size + 1) #[.int .i8 k, .slice AK ks.length capK, .string ⟨ds.toArray⟩, .string ⟨vl.toArray⟩, .string ⟨st.toArray⟩, .slice AM ms.length capM, .string ⟨fn.toArray⟩, .string ⟨rl.toArray⟩, .bool dn]).heap[b]? = wr.heap[b]? := fun b hb => setRow_other _ _ _ _ (by omega)
      have hmr := (HL.out.mrow _ rfl).1
      rw [List.take_length] at hmr
      refine ⟨_, rfl, (copy_at (n := fuel) HF.out (hkids.keep (keeps_at fuel) (by simp) fun b hb _ _ => far b hb) (own_blocks HL.out.row far) (own_blocks hmr far)).wide (by omega) (Nat.le_refl _), ?_⟩
      exact HL.out.below.trans ⟨rfl, rfl, rfl, by simp, fun b hb => setRow_other _ _ _ _ (by omega)⟩
end Go.Proofs.YtdkfmckbeagenaaGreatDoor
