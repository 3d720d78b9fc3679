/-
  filter.twin: a filter in memory of its own.
 shape's nodes: turned (of an item, of an And or Or), grown.
-/
import Derived.Test.YtdkfmckbeagenaaGreatDoorQA2
import Derived.Test.YtdkfmckbeagenaaGreatDoorProg
import Derived.WalkKit
import Derived.Outline
import Derived.Lib.Hide
import Derived.OneCell
import Derived.OwnWalk
import Derived.Laws.Rows
import Derived.Laws.Tables
import Derived.Deep.Cut
import Derived.Deep.DeepCutAuto
import Derived.Test.YtdkfmckbeagenaaGreatDoorQB1
import Derived.RegionTactic
import Derived.BigRegion
import Derived.BigQuiet
import Derived.Deep.QuietTactic
import Derived.Deep.RegionWith
import Derived.Lib.QuietBelow
import Derived.Laws.CopyOwn
namespace Go.Proofs.YtdkfmckbeagenaaGreatDoor
open Go.RowKit Go.FltLaw Go.Lib Go.RankLaw

def blankT : Array Value := #[.int .i8 0, .slice none 0 0, .string ⟨#[]⟩, .string ⟨#[]⟩, .string ⟨#[]⟩, .slice none 0 0, .string ⟨#[]⟩, .string ⟨#[]⟩, .bool false]
theorem infoFT : (Tryz.prog.info? 26).map (fun i => (i.zero, i.size, i.bytes)) = some (some (.agg blankT), 9, 144) := by kernel_rfl
theorem infoST : (Tryz.prog.info? 9).map (fun i => (i.zero, i.size, i.bytes)) = some (some (.string ⟨#[]⟩), 1, 16) := by kernel_rfl
theorem own_slice {w : World} {B : Nat} {e : TypeId} {size n : Nat} {v : Value} {xs : List Value} (h : w.ownsRow B e size v n xs) :
  ∃ A cap, v = .slice A n cap ∧ n ≤ cap ∧ cap ≤ maxLen ∧ (0 < n → ∃ g, A = some ⟨g, 0, none⟩ ∧ B ≤ g ∧ g < w.heap.size ∧ ∀ j u, xs[j]? = some u → w.cell? ((⟨g, 0, none⟩ : Addr).add j) = some u) := by
 rcases h.2 with ⟨hv, h0⟩ | ⟨g, cap, cur, hv, hb, hg, hc, hm, _⟩
 ·exact ⟨none, 0, by rw [hv, h0], by omega, by simp [maxLen], fun hn => by omega⟩
 ·refine ⟨_, cap, hv, hc, hm, fun _ => ⟨g, rfl, hb, (Array.getElem?_eq_some_iff.1 hg).1, fun j u hu => ?_⟩⟩
  have e : (⟨g, 0, none⟩ : Addr).add j = ⟨g, j, none⟩ := by unfold Addr.add; split <;> simp_all
  rw [e]
  subst hv
  exact row_cell h hu
structure Twinning (w wr : World) (n k : Nat) (ks : List Flt) (box : Array Value) (kv mv : Value) (xs : List Value) (ms : List (List UInt8)) : Prop where
 below : Below w.heap.size w wr
 fb : wr.heap[w.heap.size]? = some (.cells box 26 (0, 0))
 rb : wr.heap[w.heap.size + 1]? = some (.cells blankT 26 (0, 0))
 row : wr.ownsRow (w.heap.size + 2) 26 9 kv k xs
 kids : KidsIn false wr (w.heap.size + 2) n (ks.take k) kv.ownBlock xs
 mrow : wr.ownsRow (w.heap.size + 2) 9 1 mv ms.length (ms.map txt)
 apart : ∀ b, mv.ownBlock = some b → kv.ownBlock ≠ some b
theorem Twinning.size {w wr : World} {n k : Nat} {ks : List Flt} {box : Array Value} {kv mv : Value} {xs : List Value} {ms : List (List UInt8)} (h : Twinning w wr n k ks box kv mv xs ms) : w.heap.size + 2 ≤ wr.heap.size := by
 have := (Array.getElem?_eq_some_iff.1 h.rb).1
 omega
theorem Twinning.step {w wr w2 w3 w4 : World} {n j : Nat} {ks : List Flt} {box cs : Array Value} {kv mv : Value} {xs : List Value} {ms : List (List UInt8)} {f : Flt} {g cap : Nat} (h : Twinning w wr n j ks box kv mv xs ms) (hf : ks[j]? = some f) (hb : Below wr.heap.size wr w2)
  (hv : FAt false w2 wr.heap.size w2.heap.size n f (.agg cs)) (h3 : w2.grownBy w3 none) (hs3 : w2.heap.size ≤ w3.heap.size) (hown : w4.ownsRow (w.heap.size + 2) 26 9 (.slice (some ⟨g, 0, none⟩) (j + 1) cap) (j + 1) (xs ++ cs.toList))
  (hg : w3.grownBy w4 kv.ownBlock) (hat : kv.ownBlock = some g ∨ g = w3.heap.size) : Twinning w w4 n (j + 1) ks box (.slice (some ⟨g, 0, none⟩) (j + 1) cap) mv (xs ++ cs.toList) ms := by
 have hsz := h.size
 have hb2 := hb.size
 have hrb : ∀ b, kv.ownBlock = some b → w.heap.size + 2 ≤ b ∧ b < wr.heap.size := fun b e => h.row.lt b e
 have hmb : ∀ b, mv.ownBlock = some b → w.heap.size + 2 ≤ b ∧ b < wr.heap.size := fun b e => h.mrow.lt b e
 have h34 : w2.grownBy w4 kv.ownBlock := by
  refine World.grownBy.trans ⟨h3.os, h3.tape, h3.output, h3.size, fun k hk _ => h3.block k hk (by simp)⟩ hg
 have keep : ∀ b, b < w.heap.size + 2 → w4.heap[b]? = wr.heap[b]? := fun b hb' => by
  rw [h34.block b (by omega) (fun e => by have := hrb b e.symm; omega), hb.block b (by omega)]
 refine ⟨(h.below.trans (hb.mono (by omega))).grown h34 (by omega) (fun k e => by have := hrb k e; omega), ?_, ?_, hown, ?_, ?_, ?_⟩
 ·rw [keep _ (by omega)]; exact h.fb
 ·rw [keep _ (by omega)]; exact h.rb
 ·exact h.kids.step (g := g) h.row.1 hf hb hv (by omega) (fun b e => (hrb b e).2) h34 (hat.imp id fun e => by omega) rfl
 ·refine (own_later h.mrow hb).kept h34 ?_
  cases hm : mv.ownBlock with
  | none => exact .inl rfl
  | some b => exact .inr fun e => h.apart b hm e.symm
 ·intro b hm e
  have := hmb b hm
  have hgb : g = b := by
   simp [Value.ownBlock] at e
   exact e
  subst hgb
  rcases hat with e | e
  ·exact h.apart g hm e
  ·omega
def Twin1 (n : Nat) (f : Flt) (w : World) (e : Ending) (w' : World) : Prop := ∃ v, e = .returned v ∧ FAt false w' w.heap.size w'.heap.size n f v ∧ Below w.heap.size w w'
end Go.Proofs.YtdkfmckbeagenaaGreatDoor

namespace Go.Proofs.YtdkfmckbeagenaaGreatDoor
open Go.RowKit Go.FltLaw Go.Lib Go.RankLaw

abbrev NodeAt := NAt 63 66
set_option maxHeartbeats 800000 in
set_option maxRecDepth 100000 in
theorem turned_lit (k : Int) (KA : Option Addr) (kn kc : Nat) (ds vl st : List UInt8) (MA : Option Addr) (mn mc : Nat) (fn rl : List UInt8) (dn b : Bool) (w : World) :
  Calls Tryz.prog 210 #[.agg #[.int .i8 k, .slice KA kn kc, .string ⟨ds.toArray⟩, .string ⟨vl.toArray⟩, .string ⟨st.toArray⟩, .slice MA mn mc, .string ⟨fn.toArray⟩, .string ⟨rl.toArray⟩, .bool dn, .bool b]] w
   fun e w' => e = .returned (.iface 63 (.agg #[.int .i8 k, .slice KA kn kc, .string ⟨ds.toArray⟩, .string ⟨vl.toArray⟩, .string ⟨st.toArray⟩, .slice MA mn mc, .string ⟨fn.toArray⟩, .string ⟨rl.toArray⟩, .bool dn, .bool (!b)])) ∧ Below w.heap.size w w' := by
 have hb := fun o => (Below.refl w.heap.size w).alloc (Nat.le_refl _) o
 have HB := Lib.hid hb
 clear hb
 go_enter Tryz.func210, Tryz.ntmps210
 go_wp2_with fail
 go_ret
 exact ⟨rfl, HB.out _⟩
theorem row_set {w : World} {B : Nat} {e : TypeId} {g n c : Nat} {us : List Value} (h : w.ownsRow B e 1 (.slice (some ⟨g, 0, none⟩) n c) n us) (j : Nat) (u : Value) : (w.setCell ⟨g, j, none⟩ u).ownsRow B e 1 (.slice (some ⟨g, 0, none⟩) n c) n (us.set j u) := by
 obtain ⟨h1, h | ⟨g', cap, cur, hv, hb, hg, hc, hm, hs, ht⟩⟩ := h
 ·exact absurd h.1 (by simp)
 ·simp only [Value.slice.injEq, Option.some.injEq, Addr.mk.injEq] at hv
  obtain ⟨⟨rfl, _⟩, _, rfl⟩ := hv
  refine ⟨by simpa using h1, .inr ⟨g, c, cur.setIfInBounds j u, rfl, hb, heap_setCell_same _ _ _ _ _ _ hg, hc, hm, by simpa using hs, ?_⟩⟩
  rw [← ht]
  simp [List.take_set]
def Turned (n : Nat) (x : FltLaw.Node) (S : Nat → Prop) (w : World) (e : Ending) (w' : World) : Prop := ∃ v', e = .returned v' ∧ NodeAt (fun b => S b ∨ (w.heap.size ≤ b ∧ b < w'.heap.size)) w' n (turnN x) v' ∧ Below w.heap.size w w'
structure Turning (w wr : World) (S : Nat → Prop) (n j : Nat) (xs : List FltLaw.Node) (box : Array Value) (us : List Value) : Prop where
 below : Below w.heap.size w wr
 fb : wr.heap[w.heap.size]? = some (.cells box 66 (0, 0))
 row : wr.ownsRow (w.heap.size + 1) 44 1 (.slice (some ⟨w.heap.size + 1, 0, none⟩) xs.length xs.length) xs.length us
 done : ∀ i x, xs[i]? = some x → i < j → ∃ u, us[i]? = some u ∧ NodeAt (fun b => S b ∨ (w.heap.size + 2 ≤ b ∧ b < wr.heap.size)) wr n (turnN x) u
 todo : ∀ i x, xs[i]? = some x → j ≤ i → ∃ u, us[i]? = some u ∧ NodeAt S wr n x u
theorem Turning.size {w wr : World} {S : Nat → Prop} {n j : Nat} {xs : List FltLaw.Node} {box : Array Value} {us : List Value} (h : Turning w wr S n j xs box us) : w.heap.size + 2 ≤ wr.heap.size := by
 have := (row_form h.row).2.1
 omega
theorem Turning.step {w wr w4 : World} {S : Nat → Prop} {n j : Nat} {xs : List FltLaw.Node} {box : Array Value} {us : List Value} {x : FltLaw.Node} {v : Value} (hS : ∀ b, S b → b < w.heap.size) (h : Turning w wr S n j xs box us) (hx : xs[j]? = some x) (hb : Below wr.heap.size wr w4)
  (hv : NodeAt (fun b => S b ∨ (wr.heap.size ≤ b ∧ b < w4.heap.size)) w4 n (turnN x) v) : Turning w (w4.setCell ⟨w.heap.size + 1, j, none⟩ v) S n (j + 1) xs box (us.set j v) := by
 have hsz := h.size
 have hb2 := hb.size
 have e4 : (w4.setCell ⟨w.heap.size + 1, j, none⟩ v).heap.size = w4.heap.size := by simp [World.setCell]
 have hl : us.length = xs.length := by simpa using h.row.1
 have hjl : j < us.length := by rw [hl]; exact (List.getElem?_eq_some_iff.1 hx).1
 have far : ∀ p : Addr, p.block ≠ w.heap.size + 1 → (w4.setCell ⟨w.heap.size + 1, j, none⟩ v).cell? p = w4.cell? p := fun p hp => World.cell?_of_block (Below.heap_setCell _ _ _ _ (by simpa using hp))
 refine ⟨(h.below.trans (hb.mono (by omega))).setCell (p := ⟨w.heap.size + 1, j, none⟩) (by simp) _, ?_, row_set (own_later h.row hb) j v, ?_, ?_⟩
 ·rw [Below.heap_setCell _ _ _ _ (by simp), hb.block _ (by omega)]; exact h.fb
 ·intro i y hi hij
  by_cases hlt : i < j
  ·obtain ⟨u, g1, g2⟩ := h.done i y hi hlt
   refine ⟨u, by rw [List.getElem?_set_ne (by omega)]; exact g1, ?_⟩
   refine (NAt.keep (fun p hp => ?_) g2).mono fun b hb' => ?_
   ·have h1 : p.block ≠ w.heap.size + 1 := by rcases hp with h | h; have := hS _ h; omega; omega
    have h2 : p.block < wr.heap.size := by rcases hp with h | h; have := hS _ h; omega; omega
    exact (far p h1).trans (hb.cell h2)
   ·rcases hb' with h | h
    ·exact .inl h
    ·exact .inr (by rw [e4]; omega)
  ·have : i = j := by omega
   subst this
   rw [hx] at hi
   injection hi with hi
   subst hi
   refine ⟨v, by rw [List.getElem?_set_self hjl], ?_⟩
   refine (NAt.keep (fun p hp => far p ?_) hv).mono fun b hb' => ?_
   ·rcases hp with h | h
    ·have := hS _ h; omega
    ·omega
   ·rcases hb' with h | h
    ·exact .inl h
    ·exact .inr (by rw [e4]; omega)
 ·intro i y hi hij
  obtain ⟨u, g1, g2⟩ := h.todo i y hi (by omega)
  refine ⟨u, by rw [List.getElem?_set_ne (by omega)]; exact g1, NAt.keep (fun p hp => ?_) g2⟩
  have := hS _ hp
  exact (far p (by omega)).trans (hb.cell (by omega))
theorem infoN : (Tryz.prog.info? 44).map (fun i => (i.zero, i.size, i.bytes)) = some (some .nilIface, 1, 16) := by kernel_rfl
theorem row_block {w : World} {B : Nat} {e : TypeId} {g n c : Nat} {us : List Value} (h : w.ownsRow B e 1 (.slice (some ⟨g, 0, none⟩) n c) n us) : ∃ cur, w.heap[g]? = some (.cells cur e (0, 0)) ∧ cur.size = c ∧ n ≤ c ∧ c ≤ maxLen ∧ B ≤ g := by
 obtain ⟨_, h | ⟨g', cap, cur, hv, hb, hg, hc, hm, hs, ht⟩⟩ := h
 ·exact absurd h.1 (by simp)
 ·simp only [Value.slice.injEq, Option.some.injEq, Addr.mk.injEq] at hv
  obtain ⟨⟨rfl, _⟩, _, rfl⟩ := hv
  exact ⟨cur, hg, by simpa using hs, hc, hm, hb⟩
theorem turning_start {w w2 : World} {S : Nat → Prop} {n : Nat} {xs : List FltLaw.Node} {box cur : Array Value} {us zs : List Value} (hS : ∀ b, S b → b < w.heap.size) (hg : (w.alloc (.cells box 66)).grownBy w2 none)
  (hrow : w2.ownsRow (w.heap.size + 1) 44 1 (.slice (some ⟨w.heap.size + 1, 0, none⟩) xs.length xs.length) xs.length zs) (hcur : w2.heap[w.heap.size + 1]? = some (.cells cur 44 (0, 0))) (hcs : cur.size = xs.length) (hl : us.length = xs.length)
  (hus : ∀ (i : Nat) (x : FltLaw.Node), xs[i]? = some x → ∃ u, us[i]? = some u ∧ NodeAt S w n x u) :
  Turning w (w2.setRow (w.heap.size + 1) (cur.toList.take 0 ++ (us ++ cur.toList.drop (0 + us.length))).toArray) S n 0 xs box us := by
 have e : cur.toList.take 0 ++ (us ++ cur.toList.drop (0 + us.length)) = us := by
  rw [List.take_zero, List.nil_append, List.drop_eq_nil_of_le (by simp [hl, hcs]), List.append_nil]
 rw [e]
 have s2 := hg.size
 simp at s2
 have bl : Below w.heap.size w w2 := ((Below.refl _ _).alloc (Nat.le_refl _) _).grown hg (by simp) (fun k e => by cases e)
 refine ⟨bl.trans ⟨rfl, rfl, rfl, by simp, fun b hb => setRow_other _ _ _ _ (by omega)⟩, ?_, ?_, fun i x _ h => by omega, fun i x hi _ => ?_⟩
 ·rw [setRow_other _ _ _ _ (by omega), hg.block _ (by simp) (by simp)]
  exact heap_alloc_new w _
 ·obtain ⟨c2, h1, h2, h3, h4, h5⟩ := row_block hrow
  refine ⟨by simpa using hl, .inr ⟨w.heap.size + 1, xs.length, us.toArray, rfl, h5, setRow_heap _ _ _ _ _ _ hcur, Nat.le_refl _, h4, by simpa using hl, ?_⟩⟩
  simp [← hl]
 ·obtain ⟨u, g1, g2⟩ := hus i x hi
  refine ⟨u, g1, NAt.keep (fun p hp => ?_) g2⟩
  have := hS _ hp
  exact (World.cell?_of_block (setRow_other _ _ _ _ (by omega))).trans (bl.cell this)
theorem fineNs_mem : ∀ {xs : List FltLaw.Node} {j : Nat} {x : FltLaw.Node}, FineNs xs → xs[j]? = some x → FineN x
 | [], _, _, _, h => by simp at h
 | y :: ys, 0, x, hf, h => by simp at h; subst h; exact hf.1
 | y :: ys, j + 1, x, hf, h => fineNs_mem (xs := ys) hf.2 (by simpa using h)
theorem turns_at : ∀ {xs : List FltLaw.Node} {i : Nat} {y : FltLaw.Node}, (turnNs xs)[i]? = some y → ∃ x, xs[i]? = some x ∧ y = turnN x
 | [], _, _, h => by simp [turnNs] at h
 | x :: xs, 0, y, h => by simp [turnNs] at h; exact ⟨x, rfl, h.symm⟩
 | x :: xs, i + 1, y, h => by
  simp only [turnNs, List.getElem?_cons_succ] at h
  obtain ⟨z, h1, h2⟩ := turns_at h
  exact ⟨z, by simpa using h1, h2⟩
theorem turns_len : ∀ xs : List FltLaw.Node, (turnNs xs).length = xs.length
 | [] => rfl
 | x :: xs => by simp [turnNs, turns_len xs]
theorem Turning.fin {w wr : World} {S : Nat → Prop} {n : Nat} {k : Int} {xs : List FltLaw.Node} {box : Array Value} {us : List Value} (h : Turning w wr S n xs.length xs box us) (hpos : 0 < xs.length) (h16 : xs.length * 16 ≤ 140737488351232) :
  NodeAt (fun b => S b ∨ (w.heap.size ≤ b ∧ b < wr.heap.size)) wr (n + 1) (turnN (.junc k xs)) (.iface 66 (.agg #[.int .i8 (1 - k), .slice (some ⟨w.heap.size + 1, 0, none⟩) xs.length xs.length])) := by
 have hsz := h.size
 obtain ⟨_, _, _, _, hm, _⟩ := row_block h.row
 refine ⟨_, _, by rw [turns_len], by rw [turns_len]; exact Nat.le_refl _, hm, by rw [turns_len]; exact h16, fun _ => ⟨_, rfl, .inr ⟨by simp, by simp; omega⟩, fun i y hi => ?_⟩⟩
 obtain ⟨x, h1, rfl⟩ := turns_at hi
 obtain ⟨u, g1, g2⟩ := h.done i x h1 (List.getElem?_eq_some_iff.1 h1).1
 refine ⟨u, g2.mono fun b hb => ?_, ?_⟩
 ·rcases hb with h | h
  ·exact .inl h
  ·exact .inr (by omega)
 ·have e : (⟨w.heap.size + 1, 0, none⟩ : Addr).add i = ⟨w.heap.size + 1, i, none⟩ := by unfold Addr.add; split <;> simp_all
  rw [e]
  exact row_cell h.row g1
set_option maxHeartbeats 3200000 in
set_option maxRecDepth 100000 in
theorem turned_p : ∀ (fuel : Nat) (x : FltLaw.Node) (v : Value) (w : World) (S : Nat → Prop), NodeAt S w fuel x v → (∀ b, S b → b < w.heap.size) → FineN x →
  (∀ c, v = .iface 63 c → Calls Tryz.prog 210 #[c] w (Turned fuel x S w)) ∧
  (∀ c, v = .iface 66 c → Calls Tryz.prog 211 #[c] w (Turned fuel x S w)) := by
 intro fuel
 induction fuel with
 | zero => intro x v w S h; exact h.elim
 | succ fuel ih =>
  intro x v w S hN hS hf
  cases x with
  | lit f b =>
   obtain ⟨KA, kc, MA, mc, k, ks, ds, vl, st, ms, fn, rl, dn, rfl, hF⟩ := hN
   refine ⟨fun c hc => ?_, fun c hc => by injection hc with h1 h2; exact absurd h1 (by decide)⟩
   injection hc with _ hc
   subst hc
   refine (turned_lit k KA ks.length kc ds vl st MA ms.length mc fn rl dn b w).mono fun e w' ⟨h1, h2⟩ => ?_
   refine ⟨_, h1, ⟨KA, kc, MA, mc, k, ks, ds, vl, st, ms, fn, rl, dn, rfl, (hF.keep fun p hp => h2.cell (hS _ hp)).mono fun b hb => .inl hb⟩, h2⟩
  | junc k xs =>
   obtain ⟨A, cc, rfl, hc1, hc2, hc3, hx⟩ := hN
   refine ⟨fun c hc => (by injection hc with h1 h2; exact absurd h1 (by decide)), fun c hc => ?_⟩
   injection hc with _ hc
   subst hc
   unfold FineN at hf
   obtain ⟨hk, hne, hfs⟩ := hf
   have hpos : 0 < xs.length := List.length_pos_iff.2 hne
   obtain ⟨ad, rfl, hadS, hel⟩ := hx hpos
   have each : ∀ i, i < xs.length → ∃ u : Value, (∀ x, xs[i]? = some x → NodeAt S w fuel x u) ∧ w.cell? (ad.add i) = some u := fun i hi => by
    obtain ⟨u, g1, g2⟩ := hel i _ (List.getElem?_eq_getElem hi)
    refine ⟨u, fun x hx => ?_, g2⟩
    rw [List.getElem?_eq_getElem hi] at hx
    injection hx with hx
    subst hx
    exact g1
   haveI : Inhabited Value := ⟨.nilIface⟩
   obtain ⟨F, hF⟩ := Go.Deep.choose_lt each
   have hul : ((List.range xs.length).map F).length = xs.length := by simp
   have hus : ∀ (i : Nat) (x : FltLaw.Node), xs[i]? = some x → ∃ u, ((List.range xs.length).map F)[i]? = some u ∧ NodeAt S w fuel x u := fun i x hi => by
    have hlt := (List.getElem?_eq_some_iff.1 hi).1
    exact ⟨F i, by rw [List.getElem?_map, List.getElem?_range hlt]; rfl, (hF i hlt).1 x hi⟩
   have hsrc : ∀ (j : Nat) (u : Value), ((List.range xs.length).map F)[j]? = some u → w.cell? (ad.add j) = some u := fun j u hj => by
    have hlt : j < xs.length := by have := (List.getElem?_eq_some_iff.1 hj).1; rwa [hul] at this
    rw [List.getElem?_map, List.getElem?_range hlt] at hj
    injection hj with hj
    rw [← hj]
    exact (hF j hlt).2
   have hone : ∀ u ∈ (List.range xs.length).map F, u.oneCell' = true := fun u hu => by
    obtain ⟨j, hj⟩ := List.getElem?_of_mem hu
    have hlt : j < xs.length := by have := (List.getElem?_eq_some_iff.1 hj).1; rwa [hul] at this
    obtain ⟨u', g1, g2⟩ := hus j _ (List.getElem?_eq_getElem hlt)
    rw [hj] at g1
    injection g1 with g1
    subst g1
    obtain ⟨t, z, rfl⟩ := NAt.iface g2
    rfl
   generalize (List.range xs.length).map F = us at hul hus hsrc hone
   obtain ⟨i0, hi, hz0, hz1, hz2⟩ := info_parts infoN
   have IH := Lib.hid ih
   have HUS := Lib.hid hus
   have HSRC := Lib.hid hsrc
   have HONE := Lib.hid hone
   have HSS := Lib.hid hS
   have HFS := Lib.hid hfs
   have hadb := hS _ hadS
   clear ih hus hsrc hone hS hfs hx hel each hF
   have hm1 : ∀ (u : Value) (w : World), (method 480 63 u "roster/shape.turned").run Tryz.prog w = .ok (210, u) w := fun u w => by kernel_rfl
   have hm2 : ∀ (u : Value) (w : World), (method 480 66 u "roster/shape.turned").run Tryz.prog w = .ok (211, u) w := fun u w => by kernel_rfl
   go_enter Tryz.func211, Tryz.ntmps211
   go_wp2_with (first
    | (refine wpList_make_full _ rfl (.tmp 7) (.tmp 7) 64 rfl (w.heap.size + 1) 44 i0 _ 1 Tryz.underlying64 hi hz0 hz1 .i64 .i64 (xs.length : Int) (xs.length : Int) xs.length rfl rfl rfl rfl (by rw [hz2]; omega) (by omega) (by simp) ?_; intro w2 ho2 hg2; have ho3 : w2.ownsRow (w.heap.size + 1) 44 1 (.slice (some ⟨w.heap.size + 1, 0, none⟩) xs.length xs.length) xs.length _ := (by simpa using ho2); obtain ⟨cur, hcur, hcs, _, _, _⟩ := row_block ho3; have HT0 := Lib.hid (turning_start HSS.out hg2 ho3 hcur hcs hul HUS.out); have HCUR := Lib.hid hcur; have c1 : w2.cell? ⟨w.heap.size, 1, none⟩ = some (.slice (some ad) xs.length cc) := (by have g := (hg2.block w.heap.size (by simp) (by simp)).trans (heap_alloc_new w _); simp [World.cell?, g]); have hsr2 := fun j u hj => ((((Below.refl w.heap.size w).alloc (Nat.le_refl _) _).grown hg2 (by simp) (fun k e => by cases e)).cell (p := ad.add j) (by rw [RankLaw.add_block]; exact hadb)).trans (HSRC.out j u hj); have HSR2 := Lib.hid hsr2; clear ho2 ho3 hg2 hcur hsr2)
    | ((refine wpList_copy_own rfl (.tmp 9) (.tmp 11) 64 64 rfl 44 Tryz.underlying64 (by kernel_rfl) (w.heap.size + 1) 0 xs.length xs.length ad xs.length cc rfl rfl cur 44 HCUR.out us (by rw [hul]; simp) HSR2.out (by omega) HONE.out ?_); have HT := Lib.hid HT0.out; clear HT0; generalize (w2.setRow _ _) = w3 at HT ⊢))
   go_loopw [15] (fun i wr => ∃ (j : Nat) (us : List Value), j ≤ xs.length ∧ i = .int .i64 j ∧ Turning w wr S fuel j xs #[.int .i8 k, .slice (some ad) xs.length cc] us) (fun i _ => xs.length - (RowKit.intOf i).toNat)
   case atStart => exact ⟨0, us, Nat.zero_le _, rfl, HT.out⟩
   case round =>
    clear HT hul HUS HSRC HONE
    obtain ⟨j, us, hj, rfl, hL⟩ := hrel
    have HL := Lib.hid hL
    have hsz := hL.size
    by_cases hlt : j < xs.length
    ·have hke := List.getElem?_eq_getElem hlt
     generalize xs[j] = x at hke
     obtain ⟨u, hu, hN⟩ := hL.todo j x hke (Nat.le_refl _)
     have hcell := row_cell hL.row hu
     obtain ⟨hcl, hcj⟩ := IH.out x u _ S hN (fun b hb => by have := HSS.out b hb; omega) (fineNs_mem HFS.out hke)
     have HCL := Lib.hid hcl
     have HCJ := Lib.hid hcj
     have HKE := Lib.hid hke
     clear hke hcl hcj hL
     have hnn := NAt.iface hN
     cases fuel with
     | zero => exact hN.elim
     | succ fuel =>
      cases x with
      | lit f b =>
       obtain ⟨KA, kc, MA, mc, k2, ks2, ds, vl, st, ms, fn, rl, dn, rfl, _⟩ := hN
       clear hnn
       go_wp2_with (go_at_call 210; (with_reducible refine (HCL.out _ rfl).mono ?_); rintro e w4 ⟨v4, rfl, hn4, hb4⟩; obtain ⟨t4, z4, rfl⟩ := NAt.iface hn4; have HN4 := Lib.hid hn4; have HB4 := Lib.hid hb4; have hr4 := own_later HL.out.row hb4; have e1 : w4.cell? ⟨w.heap.size + 1, j, none⟩ = some _ := row_cell hr4 hu; have e2 : w4.frozen? ⟨w.heap.size + 1, j, none⟩ = false := (by obtain ⟨cu, hcu, _⟩ := row_block hr4; simp [World.frozen?, hcu]); clear hn4 hb4 hr4)
       go_round
       case rel => exact ⟨j + 1, _, by omega, by go_num, HL.out.step HSS.out HKE.out HB4.out HN4.out⟩
       case measure => simp [RowKit.intOf]; omega
      | junc k2 ys =>
       obtain ⟨A2, c2, rfl, _⟩ := hN
       clear hnn
       go_wp2_with (go_at_call 211; (with_reducible refine (HCJ.out _ rfl).mono ?_); rintro e w4 ⟨v4, rfl, hn4, hb4⟩; obtain ⟨t4, z4, rfl⟩ := NAt.iface hn4; have HN4 := Lib.hid hn4; have HB4 := Lib.hid hb4; have hr4 := own_later HL.out.row hb4; have e1 : w4.cell? ⟨w.heap.size + 1, j, none⟩ = some _ := row_cell hr4 hu; have e2 : w4.frozen? ⟨w.heap.size + 1, j, none⟩ = false := (by obtain ⟨cu, hcu, _⟩ := row_block hr4; simp [World.frozen?, hcu]); clear hn4 hb4 hr4)
       go_round
       case rel => exact ⟨j + 1, _, by omega, by go_num, HL.out.step HSS.out HKE.out HB4.out HN4.out⟩
       case measure => simp [RowKit.intOf]; omega
    ·have ej : j = xs.length := by omega
     subst ej
     have c1 : wr.cell? ⟨w.heap.size, 0, none⟩ = some (.int .i8 k) := by simp [World.cell?, hL.fb]
     clear hL
     rcases hk with rfl | rfl
     ·go_wp2_with fail
      go_ret
      exact ⟨_, rfl, HL.out.fin hpos hc3, HL.out.below⟩
     ·go_wp2_with fail
      go_ret
      exact ⟨_, rfl, HL.out.fin hpos hc3, HL.out.below⟩
end Go.Proofs.YtdkfmckbeagenaaGreatDoor
