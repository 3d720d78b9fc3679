/-
  shape.grown: a filter as nodes.
-/
import Derived.Test.YtdkfmckbeagenaaGreatDoorQD3
import Derived.Deep.RegionLaw
import Derived.Deep.DrawnRows
import Derived.Shelf.Abstract
namespace Go.Proofs.YtdkfmckbeagenaaGreatDoor
open Go.RowKit Go.FltLaw Go.Lib Go.RankLaw

theorem enterTL : ∀ (args : Array Value) (w : World), (callFunc 210 args).run Tryz.prog w = .ok (.enter 210 args) w := enters_of Tryz.func210 (by kernel_rfl) rfl
theorem enterTJ : ∀ (args : Array Value) (w : World), (callFunc 211 args).run Tryz.prog w = .ok (.enter 211 args) w := enters_of Tryz.func211 (by kernel_rfl) rfl
theorem node_turns {n : Nat} {x : FltLaw.Node} {v : Value} {w : World} {S : Nat → Prop} (h : NodeAt S w n x v) (hS : ∀ b, S b → b < w.heap.size) (hf : FineN x) :
  ∃ (t : TypeId) (c : Value) (fn : Nat), v = .iface t c ∧ (∀ w' : World, (method 480 t c "roster/shape.turned").run Tryz.prog w' = .ok (fn, c) w') ∧ (∀ (args : Array Value) (w : World), (callFunc fn args).run Tryz.prog w = .ok (.enter fn args) w) ∧
   Calls Tryz.prog fn #[c] w (Turned n x S w) := by
 obtain ⟨hl, hj⟩ := turned_p n x v w S h hS hf
 cases n with
 | zero => exact h.elim
 | succ n =>
  cases x with
  | lit f b =>
   obtain ⟨KA, kc, MA, mc, k, ks, ds, vl, st, ms, fn, rl, dn, rfl, _⟩ := h
   exact ⟨_, _, _, rfl, fun w' => by kernel_rfl, enterTL, hl _ rfl⟩
  | junc k xs =>
   obtain ⟨A, cc, rfl, _⟩ := h
   exact ⟨_, _, _, rfl, fun w' => by kernel_rfl, enterTJ, hj _ rfl⟩
def Grown1 (n : Nat) (f : Flt) (S : Nat → Prop) (w : World) (e : Ending) (w' : World) : Prop := ∃ v', e = .returned v' ∧ NodeAt (fun b => S b ∨ (w.heap.size ≤ b ∧ b < w'.heap.size)) w' (n + 1) (FltLaw.grown f) v' ∧ Below w.heap.size w w'
def GS (S : Nat → Prop) (w wr : World) (kv : Value) : Nat → Prop := fun b => S b ∨ (w.heap.size + 2 ≤ b ∧ b < wr.heap.size ∧ kv.ownBlock ≠ some b)
structure Growing (w wr : World) (S : Nat → Prop) (n j : Nat) (k : Int) (ks : List Flt) (box : Array Value) (kv : Value) (us : List Value) : Prop where
 below : Below w.heap.size w wr
 fb : wr.heap[w.heap.size]? = some (.cells box 26 (0, 0))
 jb : wr.heap[w.heap.size + 1]? = some (.cells #[.int .i8 k, kv] 66 (0, 0))
 row : wr.ownsRow (w.heap.size + 2) 44 1 kv j us
 nodes : NodesIn 63 66 (GS S w wr kv) wr n (growns (ks.take j)) us
theorem Growing.size {w wr : World} {S : Nat → Prop} {n j : Nat} {k : Int} {ks : List Flt} {box : Array Value} {kv : Value} {us : List Value} (h : Growing w wr S n j k ks box kv us) : w.heap.size + 2 ≤ wr.heap.size := by
 have := (Array.getElem?_eq_some_iff.1 h.jb).1
 omega
theorem growns_app : ∀ (l m : List Flt), growns (l ++ m) = growns l ++ growns m
 | [], m => by simp [growns]
 | x :: l, m => by simp [growns, growns_app l m]
theorem growns_len : ∀ (l : List Flt), (growns l).length = l.length
 | [] => rfl
 | x :: l => by simp [growns, growns_len l]
theorem Growing.start (w : World) (S : Nat → Prop) (n : Nat) (k : Int) (ks : List Flt) (box : Array Value) : Growing w ((w.alloc (.cells box 26)).alloc (.cells #[.int .i8 k, .slice none 0 0] 66)) S n 0 k ks box (.slice none 0 0) [] :=
 ⟨((Below.refl _ _).alloc (Nat.le_refl _) _).alloc (by simp) _, heap_alloc2_old _ _ _, heap_alloc2_new _ _ _, World.ownsRow_nil _ _ _ _, by rw [List.take_zero]; exact NodesIn.nil _ _ _ _ _⟩
theorem Growing.step {w wr w1 w2 w3 w4 : World} {S : Nat → Prop} {n j g cap : Nat} {k : Int} {ks : List Flt} {box : Array Value} {kv : Value} {us : List Value} {f : Flt} {u : Value} (hS : ∀ b, S b → b < w.heap.size) (h : Growing w wr S n j k ks box kv us) (hf : ks[j]? = some f)
  (h1 : Below wr.heap.size wr w1) (h2 : Below w1.heap.size w1 w2) (hu : NodeAt (fun b => S b ∨ (w1.heap.size ≤ b ∧ b < w2.heap.size)) w2 n (FltLaw.grown f) u) (h3 : Below w2.heap.size w2 w3) (hg : w3.grownBy w4 kv.ownBlock)
  (hown : w4.ownsRow (w.heap.size + 2) 44 1 (.slice (some ⟨g, 0, none⟩) (j + 1) cap) (j + 1) (us ++ [u])) (hat : kv.ownBlock = some g ∨ w3.heap.size ≤ g) :
  Growing w (w4.setCell ⟨w.heap.size + 1, 1, none⟩ (.slice (some ⟨g, 0, none⟩) (j + 1) cap)) S n (j + 1) k ks box (.slice (some ⟨g, 0, none⟩) (j + 1) cap) (us ++ [u]) := by
 have hsz := h.size
 have s1 := h1.size
 have s2 := h2.size
 have s3 := h3.size
 have s4 := hg.size
 have hkb : ∀ b, kv.ownBlock = some b → w.heap.size + 2 ≤ b ∧ b < wr.heap.size := fun b e => h.row.lt b e
 have e5 : (w4.setCell ⟨w.heap.size + 1, 1, none⟩ (.slice (some ⟨g, 0, none⟩) (j + 1) cap)).heap.size = w4.heap.size := by simp [World.setCell]
 have far : ∀ b, b ≠ w.heap.size + 1 → b < w3.heap.size → kv.ownBlock ≠ some b → (w4.setCell ⟨w.heap.size + 1, 1, none⟩ (.slice (some ⟨g, 0, none⟩) (j + 1) cap)).heap[b]? = w3.heap[b]? := fun b hb hlt hne => by
  rw [Below.heap_setCell _ _ _ _ (by simpa using hb), hg.block b hlt hne.symm]
 have old : ∀ b, b < wr.heap.size → b ≠ w.heap.size + 1 → kv.ownBlock ≠ some b → (w4.setCell ⟨w.heap.size + 1, 1, none⟩ (.slice (some ⟨g, 0, none⟩) (j + 1) cap)).heap[b]? = wr.heap[b]? := fun b hlt hb hne => by
  rw [far b hb (by omega) hne, h3.block b (by omega), h2.block b (by omega), h1.block b hlt]
 have nk : ∀ b, b < w.heap.size + 2 → kv.ownBlock ≠ some b := fun b hb e => by have := hkb b e; omega
 have gne : ∀ b, b < w3.heap.size → kv.ownBlock ≠ some b → g ≠ b := fun b hb hne e => by
  subst e
  rcases hat with e | e
  ·exact hne e
  ·omega
 have j4 : w4.heap[w.heap.size + 1]? = some (.cells #[.int .i8 k, kv] 66 (0, 0)) := by
  rw [hg.block _ (by omega) (nk _ (by omega)).symm, h3.block _ (by omega), h2.block _ (by omega), h1.block _ (by omega)]
  exact h.jb
 have hng : w.heap.size + 1 ≠ g := by
  rcases hat with e | e
  ·have := hkb g e; omega
  ·omega
 refine ⟨?_, ?_, ?_, ?_, ?_⟩
 ·refine Below.setCell ?_ (p := ⟨w.heap.size + 1, 1, none⟩) (by simp) _
  exact ((((h.below.trans (h1.mono (by omega))).trans (h2.mono (by omega))).trans (h3.mono (by omega)))).grown hg (by omega) (fun b e => by have := hkb b e; omega)
 ·rw [old _ (by omega) (by omega) (nk _ (by omega))]; exact h.fb
 ·have := heap_setCell_same w4 (w.heap.size + 1) 1 _ _ (.slice (some ⟨g, 0, none⟩) (j + 1) cap) j4
  simpa using this
 ·exact own_blocks hown fun b hb => Below.heap_setCell _ _ _ _ (by simp; omega)
 ·have ht : ks.take (j + 1) = ks.take j ++ [f] := by
   rw [List.take_add_one, hf]; rfl
  rw [ht, growns_app]
  have e1 : growns [f] = [FltLaw.grown f] := by simp [growns]
  rw [e1]
  refine NodesIn.add ?_ ?_
  ·refine (h.nodes.keep fun p hp => ?_).mono fun b hb => ?_
   ·refine World.cell?_of_block (old _ ?_ ?_ ?_)
    ·rcases hp with hp | hp
     ·have := hS _ hp; omega
     ·exact hp.2.1
    ·rcases hp with hp | hp
     ·have := hS _ hp; omega
     ·omega
    ·rcases hp with hp | hp
     ·have := hS _ hp; exact nk _ (by omega)
     ·exact hp.2.2
   ·rcases hb with hb | ⟨b1, b2, b3⟩
    ·exact .inl hb
    ·refine .inr ⟨b1, by rw [e5]; omega, fun e => ?_⟩
     simp only [Value.ownBlock, Option.some.injEq] at e
     exact gne b (by omega) b3 e
  ·refine (NAt.keep (fun p hp => ?_) hu).mono fun b hb => ?_
   ·have hlt : p.block < w2.heap.size ∧ p.block ≠ w.heap.size + 1 ∧ kv.ownBlock ≠ some p.block := by
     rcases hp with hp | hp
     ·have := hS _ hp; exact ⟨by omega, by omega, nk _ (by omega)⟩
     ·exact ⟨by omega, by omega, fun e => by have := hkb _ e; omega⟩
    exact World.cell?_of_block ((far _ hlt.2.1 (by omega) hlt.2.2).trans (h3.block _ hlt.1))
   ·rcases hb with hb | hb
    ·exact .inl hb
    ·refine .inr ⟨by omega, by rw [e5]; omega, fun e => ?_⟩
     simp only [Value.ownBlock, Option.some.injEq] at e
     exact gne b (by omega) (fun e => by have := hkb _ e; omega) e
theorem Growing.fin {w wr : World} {S : Nat → Prop} {n : Nat} {k : Int} {ks : List Flt} {box : Array Value} {kv : Value} {us : List Value} (h : Growing w wr S n ks.length k ks box kv us) (hpos : 0 < ks.length) (h16 : ks.length * 16 ≤ 140737488351232) :
  ∃ g cap, kv = .slice (some ⟨g, 0, none⟩) ks.length cap ∧ NodeAt (fun b => S b ∨ (w.heap.size ≤ b ∧ b < wr.heap.size)) wr (n + 1) (.junc k (growns ks)) (.iface 66 (.agg #[.int .i8 k, kv])) := by
 obtain ⟨g, cap, rfl, hb, hlt⟩ := h.row.form hpos
 refine ⟨g, cap, rfl, ?_⟩
 obtain ⟨r1, r2, r3, r4⟩ := row_form h.row
 have hn := h.nodes
 rw [List.take_length] at hn
 refine ⟨_, _, by rw [growns_len], by rw [growns_len]; exact r3, r4, by rw [growns_len]; exact h16, fun _ => ⟨_, rfl, .inr ⟨by simp; omega, by simpa using hlt⟩, fun i y hi => ?_⟩⟩
 obtain ⟨u, h1, h2⟩ := hn.2 i y hi
 refine ⟨u, h1.mono fun b hb' => ?_, ?_⟩
 ·rcases hb' with hb' | hb'
  ·exact .inl hb'
  ·exact .inr ⟨by omega, hb'.2.1⟩
 ·have e : (⟨g, 0, none⟩ : Addr).add i = ⟨g, i, none⟩ := by unfold Addr.add; split <;> simp_all
  rw [e]
  exact row_cell h.row h2
theorem nine_at0 {w : World} {ad : Addr} {b0 b1 b2 b3 b4 b5 b6 b7 b8 : Value} (h : ∀ j u, (Value.agg #[b0, b1, b2, b3, b4, b5, b6, b7, b8]).cells[j]? = some u → w.cell? (ad.add j) = some u) :
  w.cell? ad = some b0 ∧ w.cell? ⟨ad.block, ad.off + 1, none⟩ = some b1 ∧ w.cell? ⟨ad.block, ad.off + 2, none⟩ = some b2 ∧ w.cell? ⟨ad.block, ad.off + 3, none⟩ = some b3 ∧
   w.cell? ⟨ad.block, ad.off + 4, none⟩ = some b4 ∧ w.cell? ⟨ad.block, ad.off + 5, none⟩ = some b5 ∧ w.cell? ⟨ad.block, ad.off + 6, none⟩ = some b6 ∧
   w.cell? ⟨ad.block, ad.off + 7, none⟩ = some b7 ∧ w.cell? ⟨ad.block, ad.off + 8, none⟩ = some b8 := by
 have e0 : ad.add 0 = ad := by unfold Addr.add; simp
 have h' := nine_at (w := w) (ad := ad) (m := 0) (fun j u hu => by rw [Nat.zero_add]; exact h j u hu)
 rwa [e0] at h'
theorem _root_.Go.FltLaw.FAtS.drew {S : Nat → Prop} {w : World} {n : Nat} {f : Flt} {v : Value} (h : FAtS S w n f v) : FAtS S w.drew n f v := FAtS.keep (w := w) (w' := w.drew) (fun _ _ => rfl) h
theorem grown_not (g : Flt) (ds vl st : List UInt8) (ms : List (List UInt8)) (fn rl : List UInt8) (dn : Bool) : FltLaw.grown (.mk 2 [g] ds vl st ms fn rl dn) = turnN (FltLaw.grown g) := by
 rw [FltLaw.grown, if_neg (by decide), if_pos rfl, headGrown]
theorem kb_alloc {w : World} {b : Nat} {o o' : Obj} (h : w.heap[b]? = some o) : (w.alloc o').heap[b]? = some o := by rw [Below.heap_alloc _ _ _ (Array.getElem?_eq_some_iff.1 h).1]; exact h
set_option maxHeartbeats 3200000 in
set_option maxRecDepth 100000 in
theorem grown_p : ∀ (fuel : Nat) (f : Flt) (v : Value) (w : World) (S : Nat → Prop), FAtS S w fuel f v → (∀ b, S b → b < w.heap.size) → Fine f → Calls Tryz.prog 26 #[v] w (Grown1 fuel f S w) := by
 intro fuel
 induction fuel with
 | zero => intro f v w S h; exact h.elim
 | succ fuel ih =>
  intro f v w S hF hS hfine
  obtain ⟨k, ks, ds, vl, st, ms, fn, rl, dn⟩ := f
  have HFA := Lib.hid hF
  obtain ⟨KA, kc, MA, mc, rfl, hfit, hmA, hkA⟩ := hF
  have hb0 : ∀ o o', Below w.heap.size w ((w.alloc o).alloc o') := fun o o' => ((Below.refl _ w).alloc (Nat.le_refl _) o).alloc (by simp) o'
  have HB0 := Lib.hid hb0
  have IH := Lib.hid ih
  have HK := Lib.hid hkA
  have HSS := Lib.hid hS
  have HFN := Lib.hid hfine
  have hkn := hfit.kn1
  have hkc := hfit.kc0
  unfold Fine at hfine
  obtain ⟨_, hrt, hfs⟩ := hfine
  have HFS := Lib.hid hfs
  clear ih hkA hS hfs hb0 hmA hfit
  by_cases h2 : k = 2
  ·subst h2
   have hl := right_not hrt
   obtain ⟨g, rfl⟩ : ∃ g, ks = [g] := by
    match ks, hl with
    | [g], _ => exact ⟨g, rfl⟩
   have HFG : RowKit.Hid (Fine g) := Lib.hid (by have h := HFS.out; unfold Fines at h; exact h.1)
   obtain ⟨ad, rfl, hadS, hel⟩ := HK.out (by simp)
   obtain ⟨fv, hfv, hcells⟩ := hel 0 g rfl
   have hadB := HSS.out _ hadS
   obtain ⟨kA, kc2, mA, mc2, kq, ksq, q2, q3, q4, msq, q6, q7, xq, rfl, rfl, _⟩ := (FAtS.formF hfv)
   have hb1 : ∀ o, Below w.heap.size w (w.alloc o) := fun o => (Below.refl _ w).alloc (Nat.le_refl _) o
   have HB1 := Lib.hid hb1
   have hfv' : ∀ o, FAtS S (w.alloc o) fuel _ _ := fun o => hfv.below HSS.out (hb1 o)
   have HFV := Lib.hid hfv'
   have L := fun o => nine_at0 (w := w.alloc o) (ad := ad) (fun q u hu => ((hb1 o).cell (p := ad.add q) (by rw [RankLaw.add_block]; exact hadB)).trans (by simpa using hcells q u hu))
   have l0 := fun o => (L o).1
   have l1 := fun o => (L o).2.1
   have l2 := fun o => (L o).2.2.1
   have l3 := fun o => (L o).2.2.2.1
   have l4 := fun o => (L o).2.2.2.2.1
   have l5 := fun o => (L o).2.2.2.2.2.1
   have l6 := fun o => (L o).2.2.2.2.2.2.1
   have l7 := fun o => (L o).2.2.2.2.2.2.2.1
   have l8 := fun o => (L o).2.2.2.2.2.2.2.2
   clear hel hcells hfv' hfv hb1 HFA L
   unfold flt
   simp only [List.length_singleton] at hkn hkc ⊢
   go_enter Tryz.func26, Tryz.ntmps26
   go_wp2_with (first
    | (go_at_call 26; (with_reducible refine (IH.out _ _ _ S (HFV.out _) (fun b hb => by have := HSS.out b hb; simp; omega) HFG.out).mono ?_); rintro e w3 ⟨v3, rfl, hn3, hb3⟩; have hb3' := (HB1.out _).trans (hb3.mono (by simp)); have HB3 := Lib.hid hb3'; have hs3 := hb3'.size; have hsz3 := hb3.size; obtain ⟨t3, c3, fn3, rfl, hm3, he3, hc3⟩ := node_turns hn3 (fun b hb => by simp at hb hsz3; rcases hb with hb | hb; have := HSS.out b hb; omega; omega) (grown_char HFG.out).1; have HC3 := Lib.hid hc3; clear hc3 hn3 hb3 hb3')
    | (go_at_fn fn3; (with_reducible refine HC3.out.mono ?_); rintro e w4 ⟨v4, rfl, hn4, hb4⟩; have HN4 := Lib.hid hn4; have HB4 := Lib.hid (HB3.out.trans (hb4.mono hs3)); have hs4 := hb4.size; clear hn4 hb4))
   go_ret
   refine ⟨v4, rfl, ?_, HB4.out⟩
   rw [grown_not]
   refine (HN4.out.up (by omega)).mono fun b hb => ?_
   simp at hb hsz3
   rcases hb with (hb | hb) | hb
   ·exact .inl hb
   ·exact .inr (by omega)
   ·exact .inr (by omega)
  ·by_cases h3 : 2 < k
   ·have e : FltLaw.grown (.mk k ks ds vl st ms fn rl dn) = .lit (.mk k ks ds vl st ms fn rl dn) false := by rw [FltLaw.grown, if_pos h3]
    have hne0 : ¬ k = 0 := by omega
    have hne1 : ¬ k = 1 := by omega
    have hb1 : ∀ o, Below w.heap.size w (w.alloc o) := fun o => (Below.refl _ w).alloc (Nat.le_refl _) o
    have HB1 := Lib.hid hb1
    unfold flt at HFA ⊢
    clear hb1
    go_enter Tryz.func26, Tryz.ntmps26
    go_wp2_with fail
    go_ret
    refine ⟨_, rfl, ?_, HB1.out _⟩
    rw [e]
    exact ⟨KA, kc, MA, mc, k, ks, ds, vl, st, ms, fn, rl, dn, rfl, (HFA.out.below HSS.out (HB1.out _)).mono fun b hb => .inl hb⟩
   ·obtain ⟨hk01, hpos⟩ := right_kind hrt h3
    have e : FltLaw.grown (.mk k ks ds vl st ms fn rl dn) = .junc k (growns ks) := by rw [FltLaw.grown, if_neg h3, if_neg h2]
    have HE := Lib.hid e
    clear e HFA hrt
    rcases hk01 with rfl | rfl | rfl
    ·skip
     clear h2 h3 HFN
     unfold flt
     obtain ⟨i0, hi, hz0, hz1, hz2⟩ := info_parts infoN
     go_enter Tryz.func26, Tryz.ntmps26
     go_wp2_with fail
     go_loopw [25] (fun i wr => ∃ (j : Nat) (kv : Value) (us : List Value), j ≤ ks.length ∧ i = .int .i64 j ∧ Growing w wr S (fuel + 1) j 0 ks #[.int .i8 0, .slice KA ks.length kc, .string ⟨ds.toArray⟩, .string ⟨vl.toArray⟩, .string ⟨st.toArray⟩, .slice MA ms.length mc, .string ⟨fn.toArray⟩, .string ⟨rl.toArray⟩, .bool dn] kv us) (fun i _ => ks.length - (RowKit.intOf i).toNat)
     case atStart => exact ⟨0, _, _, Nat.zero_le _, rfl, Growing.start _ _ _ _ _ _⟩
     case round =>
      obtain ⟨j, kv, us, hj, rfl, hL⟩ := hrel
      have HL := Lib.hid hL
      have hsz := hL.size
      by_cases hlt : j < ks.length
      ·obtain ⟨ad, rfl, hadS, hel⟩ := HK.out (by omega)
       have hke := List.getElem?_eq_getElem hlt
       generalize ks[j] = q at hke
       obtain ⟨fv, hfv, hcells⟩ := hel j _ hke
       have hadB := HSS.out _ hadS
       obtain ⟨kA, kc2, mA, mc2, kq, ksq, q2, q3, q4, msq, q6, q7, xq, rfl, rfl, _⟩ := (FAtS.formF hfv)
       have HFV := Lib.hid (fun o => FAtS.drew (hfv.below HSS.out (hL.below.trans (((Below.refl _ _).alloc (Nat.le_refl _) o).mono (by omega)))))
       obtain ⟨l0, l1, l2, l3, l4, l5, l6, l7, l8⟩ := nine_at (w := wr) (m := j * 9) (fun q u hu => (hL.below.cell (p := ad.add (j * 9 + q)) (by rw [RankLaw.add_block]; exact hadB)).trans (hcells q u hu))
       have HQF := Lib.hid (fines_iff.1 HFS.out _ (List.mem_of_getElem? hke))
       have HKE := Lib.hid hke
       have HJB := Lib.hid hL.jb
       have HRow := Lib.hid hL.row
       clear hel hcells hfv hke hL
       go_upto_region 10 with fail
       have hkb := heap_alloc_new wr (.cells #[.int .i8 kq, .slice kA ksq.length kc2, .string ⟨q2.toArray⟩, .string ⟨q3.toArray⟩, .string ⟨q4.toArray⟩, .slice mA msq.length mc2, .string ⟨q6.toArray⟩, .string ⟨q7.toArray⟩, .bool xq] 26)
       have hjb : (wr.alloc (.cells #[.int .i8 kq, .slice kA ksq.length kc2, .string ⟨q2.toArray⟩, .string ⟨q3.toArray⟩, .string ⟨q4.toArray⟩, .slice mA msq.length mc2, .string ⟨q6.toArray⟩, .string ⟨q7.toArray⟩, .bool xq] 26)).heap[w.heap.size + 1]? = some (.cells #[.int .i8 0, kv] 66 (0, 0)) := kb_alloc HJB.out
       have hw1 : Below wr.heap.size wr (wr.alloc (.cells #[.int .i8 kq, .slice kA ksq.length kc2, .string ⟨q2.toArray⟩, .string ⟨q3.toArray⟩, .string ⟨q4.toArray⟩, .slice mA msq.length mc2, .string ⟨q6.toArray⟩, .string ⟨q7.toArray⟩, .bool xq] 26)) := (Below.refl _ _).alloc (Nat.le_refl _) _
       have hwz : (wr.alloc (.cells #[.int .i8 kq, .slice kA ksq.length kc2, .string ⟨q2.toArray⟩, .string ⟨q3.toArray⟩, .string ⟨q4.toArray⟩, .slice mA msq.length mc2, .string ⟨q6.toArray⟩, .string ⟨q7.toArray⟩, .bool xq] 26)).heap.size = wr.heap.size + 1 := by simp
       have HFW := Lib.hid (HFV.out (.cells #[.int .i8 kq, .slice kA ksq.length kc2, .string ⟨q2.toArray⟩, .string ⟨q3.toArray⟩, .string ⟨q4.toArray⟩, .slice mA msq.length mc2, .string ⟨q6.toArray⟩, .string ⟨q7.toArray⟩, .bool xq] 26))
       have q1 : (wr.alloc (.cells #[.int .i8 kq, .slice kA ksq.length kc2, .string ⟨q2.toArray⟩, .string ⟨q3.toArray⟩, .string ⟨q4.toArray⟩, .slice mA msq.length mc2, .string ⟨q6.toArray⟩, .string ⟨q7.toArray⟩, .bool xq] 26)).cell? ⟨w.heap.size + 1, 1, none⟩ = some kv := by simp [World.cell?, hjb]
       clear l0 l1 l2 l3 l4 l5 l6 l7 l8 HFV HJB
       generalize wr.alloc (.cells #[.int .i8 kq, .slice kA ksq.length kc2, .string ⟨q2.toArray⟩, .string ⟨q3.toArray⟩, .string ⟨q4.toArray⟩, .slice mA msq.length mc2, .string ⟨q6.toArray⟩, .string ⟨q7.toArray⟩, .bool xq] 26) = wb at hkb hjb hw1 hwz HFW q1 ⊢
       have HW1 := Lib.hid hw1
       have HJB := Lib.hid hjb
       have HKB := Lib.hid hkb
       have hsof : ∀ w' : World, w'.heap[wr.heap.size]? = some (.cells #[.int .i8 kq, .slice kA ksq.length kc2, .string ⟨q2.toArray⟩, .string ⟨q3.toArray⟩, .string ⟨q4.toArray⟩, .slice mA msq.length mc2, .string ⟨q6.toArray⟩, .string ⟨q7.toArray⟩, .bool xq] 26 (0, 0)) →
         w'.cell? ⟨wr.heap.size, 0, none⟩ = some (.int .i8 kq) ∧ w'.cell? ⟨wr.heap.size, 1, none⟩ = some (.slice kA ksq.length kc2) ∧ w'.cell? ⟨wr.heap.size, 2, none⟩ = some (.string ⟨q2.toArray⟩) ∧ w'.cell? ⟨wr.heap.size, 3, none⟩ = some (.string ⟨q3.toArray⟩) ∧ w'.cell? ⟨wr.heap.size, 4, none⟩ = some (.string ⟨q4.toArray⟩) ∧
         w'.cell? ⟨wr.heap.size, 5, none⟩ = some (.slice mA msq.length mc2) ∧ w'.cell? ⟨wr.heap.size, 6, none⟩ = some (.string ⟨q6.toArray⟩) ∧ w'.cell? ⟨wr.heap.size, 7, none⟩ = some (.string ⟨q7.toArray⟩) ∧ w'.cell? ⟨wr.heap.size, 8, none⟩ = some (.bool xq) := fun w' h => by simp [World.cell?, h]
       obtain ⟨l0, l1, l2, l3, l4, l5, l6, l7, l8⟩ := hsof _ HKB.out
       have hkvb : ∀ b, kv.ownBlock = some b → w.heap.size + 2 ≤ b ∧ b < wr.heap.size := fun b e => HRow.out.lt b e
       have HKV := Lib.hid hkvb
       clear hkb hjb hw1 hsof hkvb
       go_region_law (first
        | (refine step_append_lies _ (by rfl) _ _ _ (by rfl) (w.heap.size + 2) 44 i0 _ 1 16 Tryz.underlying64 hi hz0 hz1 hz2 rfl (by omega) kv j us (by rfl) (HR3.out.alloc _) ⟨w3.heap.size, 0, none⟩ 1 1 [.iface t3 z3] (by rfl) (by rfl) (World.news_of_block (cs := #[.iface t3 z3]) (t := 44) (fr := (0, 0)) (heap_alloc_new w3 _)) (by simp [Value.oneCell']) (by omega) (by unfold maxLen; omega) (by omega) (by simp at hz3 ⊢; omega) (w3.heap.size + 1) (by simp) ?_; intro g cap w4 hown4 hg4 hat4 hlt4; have HO4 := Lib.hid hown4; have HG4 := Lib.hid hg4; have HAT4 := Lib.hid hat4; have HK4 := Lib.hid ((hg4.block wr.heap.size (by simp at hz3 ⊢; omega) (fun e => by have := HKV.out _ e.symm; omega)).trans (kb_alloc HK3.out)); have hj4 := (hg4.block (w.heap.size + 1) (by simp at hz3 ⊢; omega) (fun e => by have := HKV.out _ e.symm; omega)).trans (kb_alloc HJ3.out); have p1 : w4.cell? ⟨w.heap.size + 1, 1, none⟩ = some kv := (by simp [World.cell?, hj4]); have p2 : w4.frozen? ⟨w.heap.size + 1, 1, none⟩ = false := (by simp [World.frozen?, hj4]); clear hown4 hg4 hat4 hj4)
        | (go_simp; go_at_call 26; (with_reducible refine (IH.out _ _ _ S HFW.out (fun b hb => by have := HSS.out b hb; simp; omega) HQF.out).mono ?_); rintro e w3 ⟨v3, rfl, hn3, hb3⟩; have HN3 := Lib.hid hn3; have HB3 := Lib.hid hb3; have hz3 := hb3.size; have HK3 := Lib.hid ((hb3.block wr.heap.size (by simp; omega)).trans HKB.out); have HJ3 := Lib.hid ((hb3.block (w.heap.size + 1) (by simp; omega)).trans HJB.out); have HR3 := Lib.hid (own_later (own_later HRow.out HW1.out) ((Below.refl wb.heap.size wb).drew.trans hb3)); have q3 : w3.cell? ⟨w.heap.size + 1, 1, none⟩ = some kv := (by simp [World.cell?, HJ3.out]); have q3' : ∀ o, (w3.alloc o).cell? ⟨w.heap.size + 1, 1, none⟩ = some kv := (fun o => by simp [World.cell?, kb_alloc (o' := o) HJ3.out]); obtain ⟨t3, z3, rfl⟩ := NAt.iface hn3; clear hn3 hb3; dsimp only))
       all_goals
        go_wp2_with fail
        go_round
        case rel => exact ⟨j + 1, _, _, by omega, by go_num, HL.out.step HSS.out HKE.out HW1.out.drew HB3.out HN3.out ((Below.refl _ _).alloc (Nat.le_refl _) _) HG4.out HO4.out (HAT4.out.imp id fun e => by rw [e]; simp)⟩
        case measure => simp [RowKit.intOf]; omega
      ·have ej : j = ks.length := by omega
       subst ej
       obtain ⟨g, cap, rfl, hfin⟩ := hL.fin hpos (by omega)
       have HFIN := Lib.hid hfin
       have c0 : wr.cell? ⟨w.heap.size + 1, 0, none⟩ = some (.int .i8 0) := by simp [World.cell?, hL.jb]
       have c1 : wr.cell? ⟨w.heap.size + 1, 1, none⟩ = some (.slice (some ⟨g, 0, none⟩) ks.length cap) := by simp [World.cell?, hL.jb]
       clear hL hfin
       go_wp2_with fail
       go_ret
       exact ⟨_, rfl, by rw [HE.out]; exact HFIN.out, HL.out.below⟩
    ·skip
     clear h2 h3 HFN
     unfold flt
     obtain ⟨i0, hi, hz0, hz1, hz2⟩ := info_parts infoN
     go_enter Tryz.func26, Tryz.ntmps26
     go_wp2_with fail
     go_loopw [25] (fun i wr => ∃ (j : Nat) (kv : Value) (us : List Value), j ≤ ks.length ∧ i = .int .i64 j ∧ Growing w wr S (fuel + 1) j 1 ks #[.int .i8 1, .slice KA ks.length kc, .string ⟨ds.toArray⟩, .string ⟨vl.toArray⟩, .string ⟨st.toArray⟩, .slice MA ms.length mc, .string ⟨fn.toArray⟩, .string ⟨rl.toArray⟩, .bool dn] kv us) (fun i _ => ks.length - (RowKit.intOf i).toNat)
     case atStart => exact ⟨0, _, _, Nat.zero_le _, rfl, Growing.start _ _ _ _ _ _⟩
     case round =>
      obtain ⟨j, kv, us, hj, rfl, hL⟩ := hrel
      have HL := Lib.hid hL
      have hsz := hL.size
      by_cases hlt : j < ks.length
      ·obtain ⟨ad, rfl, hadS, hel⟩ := HK.out (by omega)
       have hke := List.getElem?_eq_getElem hlt
       generalize ks[j] = q at hke
       obtain ⟨fv, hfv, hcells⟩ := hel j _ hke
       have hadB := HSS.out _ hadS
       obtain ⟨kA, kc2, mA, mc2, kq, ksq, q2, q3, q4, msq, q6, q7, xq, rfl, rfl, _⟩ := (FAtS.formF hfv)
       have HFV := Lib.hid (fun o => FAtS.drew (hfv.below HSS.out (hL.below.trans (((Below.refl _ _).alloc (Nat.le_refl _) o).mono (by omega)))))
       obtain ⟨l0, l1, l2, l3, l4, l5, l6, l7, l8⟩ := nine_at (w := wr) (m := j * 9) (fun q u hu => (hL.below.cell (p := ad.add (j * 9 + q)) (by rw [RankLaw.add_block]; exact hadB)).trans (hcells q u hu))
       have HQF := Lib.hid (fines_iff.1 HFS.out _ (List.mem_of_getElem? hke))
       have HKE := Lib.hid hke
       have HJB := Lib.hid hL.jb
       have HRow := Lib.hid hL.row
       clear hel hcells hfv hke hL
       go_upto_region 10 with fail
       have hkb := heap_alloc_new wr (.cells #[.int .i8 kq, .slice kA ksq.length kc2, .string ⟨q2.toArray⟩, .string ⟨q3.toArray⟩, .string ⟨q4.toArray⟩, .slice mA msq.length mc2, .string ⟨q6.toArray⟩, .string ⟨q7.toArray⟩, .bool xq] 26)
       have hjb : (wr.alloc (.cells #[.int .i8 kq, .slice kA ksq.length kc2, .string ⟨q2.toArray⟩, .string ⟨q3.toArray⟩, .string ⟨q4.toArray⟩, .slice mA msq.length mc2, .string ⟨q6.toArray⟩, .string ⟨q7.toArray⟩, .bool xq] 26)).heap[w.heap.size + 1]? = some (.cells #[.int .i8 1, kv] 66 (0, 0)) := kb_alloc HJB.out
       have hw1 : Below wr.heap.size wr (wr.alloc (.cells #[.int .i8 kq, .slice kA ksq.length kc2, .string ⟨q2.toArray⟩, .string ⟨q3.toArray⟩, .string ⟨q4.toArray⟩, .slice mA msq.length mc2, .string ⟨q6.toArray⟩, .string ⟨q7.toArray⟩, .bool xq] 26)) := (Below.refl _ _).alloc (Nat.le_refl _) _
       have hwz : (wr.alloc (.cells #[.int .i8 kq, .slice kA ksq.length kc2, .string ⟨q2.toArray⟩, .string ⟨q3.toArray⟩, .string ⟨q4.toArray⟩, .slice mA msq.length mc2, .string ⟨q6.toArray⟩, .string ⟨q7.toArray⟩, .bool xq] 26)).heap.size = wr.heap.size + 1 := by simp
       have HFW := Lib.hid (HFV.out (.cells #[.int .i8 kq, .slice kA ksq.length kc2, .string ⟨q2.toArray⟩, .string ⟨q3.toArray⟩, .string ⟨q4.toArray⟩, .slice mA msq.length mc2, .string ⟨q6.toArray⟩, .string ⟨q7.toArray⟩, .bool xq] 26))
       have q1 : (wr.alloc (.cells #[.int .i8 kq, .slice kA ksq.length kc2, .string ⟨q2.toArray⟩, .string ⟨q3.toArray⟩, .string ⟨q4.toArray⟩, .slice mA msq.length mc2, .string ⟨q6.toArray⟩, .string ⟨q7.toArray⟩, .bool xq] 26)).cell? ⟨w.heap.size + 1, 1, none⟩ = some kv := by simp [World.cell?, hjb]
       clear l0 l1 l2 l3 l4 l5 l6 l7 l8 HFV HJB
       generalize wr.alloc (.cells #[.int .i8 kq, .slice kA ksq.length kc2, .string ⟨q2.toArray⟩, .string ⟨q3.toArray⟩, .string ⟨q4.toArray⟩, .slice mA msq.length mc2, .string ⟨q6.toArray⟩, .string ⟨q7.toArray⟩, .bool xq] 26) = wb at hkb hjb hw1 hwz HFW q1 ⊢
       have HW1 := Lib.hid hw1
       have HJB := Lib.hid hjb
       have HKB := Lib.hid hkb
       have hsof : ∀ w' : World, w'.heap[wr.heap.size]? = some (.cells #[.int .i8 kq, .slice kA ksq.length kc2, .string ⟨q2.toArray⟩, .string ⟨q3.toArray⟩, .string ⟨q4.toArray⟩, .slice mA msq.length mc2, .string ⟨q6.toArray⟩, .string ⟨q7.toArray⟩, .bool xq] 26 (0, 0)) →
         w'.cell? ⟨wr.heap.size, 0, none⟩ = some (.int .i8 kq) ∧ w'.cell? ⟨wr.heap.size, 1, none⟩ = some (.slice kA ksq.length kc2) ∧ w'.cell? ⟨wr.heap.size, 2, none⟩ = some (.string ⟨q2.toArray⟩) ∧ w'.cell? ⟨wr.heap.size, 3, none⟩ = some (.string ⟨q3.toArray⟩) ∧ w'.cell? ⟨wr.heap.size, 4, none⟩ = some (.string ⟨q4.toArray⟩) ∧
         w'.cell? ⟨wr.heap.size, 5, none⟩ = some (.slice mA msq.length mc2) ∧ w'.cell? ⟨wr.heap.size, 6, none⟩ = some (.string ⟨q6.toArray⟩) ∧ w'.cell? ⟨wr.heap.size, 7, none⟩ = some (.string ⟨q7.toArray⟩) ∧ w'.cell? ⟨wr.heap.size, 8, none⟩ = some (.bool xq) := fun w' h => by simp [World.cell?, h]
       obtain ⟨l0, l1, l2, l3, l4, l5, l6, l7, l8⟩ := hsof _ HKB.out
       have hkvb : ∀ b, kv.ownBlock = some b → w.heap.size + 2 ≤ b ∧ b < wr.heap.size := fun b e => HRow.out.lt b e
       have HKV := Lib.hid hkvb
       clear hkb hjb hw1 hsof hkvb
       go_region_law (first
        | (refine step_append_lies _ (by rfl) _ _ _ (by rfl) (w.heap.size + 2) 44 i0 _ 1 16 Tryz.underlying64 hi hz0 hz1 hz2 rfl (by omega) kv j us (by rfl) (HR3.out.alloc _) ⟨w3.heap.size, 0, none⟩ 1 1 [.iface t3 z3] (by rfl) (by rfl) (World.news_of_block (cs := #[.iface t3 z3]) (t := 44) (fr := (0, 0)) (heap_alloc_new w3 _)) (by simp [Value.oneCell']) (by omega) (by unfold maxLen; omega) (by omega) (by simp at hz3 ⊢; omega) (w3.heap.size + 1) (by simp) ?_; intro g cap w4 hown4 hg4 hat4 hlt4; have HO4 := Lib.hid hown4; have HG4 := Lib.hid hg4; have HAT4 := Lib.hid hat4; have HK4 := Lib.hid ((hg4.block wr.heap.size (by simp at hz3 ⊢; omega) (fun e => by have := HKV.out _ e.symm; omega)).trans (kb_alloc HK3.out)); have hj4 := (hg4.block (w.heap.size + 1) (by simp at hz3 ⊢; omega) (fun e => by have := HKV.out _ e.symm; omega)).trans (kb_alloc HJ3.out); have p1 : w4.cell? ⟨w.heap.size + 1, 1, none⟩ = some kv := (by simp [World.cell?, hj4]); have p2 : w4.frozen? ⟨w.heap.size + 1, 1, none⟩ = false := (by simp [World.frozen?, hj4]); clear hown4 hg4 hat4 hj4)
        | (go_simp; go_at_call 26; (with_reducible refine (IH.out _ _ _ S HFW.out (fun b hb => by have := HSS.out b hb; simp; omega) HQF.out).mono ?_); rintro e w3 ⟨v3, rfl, hn3, hb3⟩; have HN3 := Lib.hid hn3; have HB3 := Lib.hid hb3; have hz3 := hb3.size; have HK3 := Lib.hid ((hb3.block wr.heap.size (by simp; omega)).trans HKB.out); have HJ3 := Lib.hid ((hb3.block (w.heap.size + 1) (by simp; omega)).trans HJB.out); have HR3 := Lib.hid (own_later (own_later HRow.out HW1.out) ((Below.refl wb.heap.size wb).drew.trans hb3)); have q3 : w3.cell? ⟨w.heap.size + 1, 1, none⟩ = some kv := (by simp [World.cell?, HJ3.out]); have q3' : ∀ o, (w3.alloc o).cell? ⟨w.heap.size + 1, 1, none⟩ = some kv := (fun o => by simp [World.cell?, kb_alloc (o' := o) HJ3.out]); obtain ⟨t3, z3, rfl⟩ := NAt.iface hn3; clear hn3 hb3; dsimp only))
       all_goals
        go_wp2_with fail
        go_round
        case rel => exact ⟨j + 1, _, _, by omega, by go_num, HL.out.step HSS.out HKE.out HW1.out.drew HB3.out HN3.out ((Below.refl _ _).alloc (Nat.le_refl _) _) HG4.out HO4.out (HAT4.out.imp id fun e => by rw [e]; simp)⟩
        case measure => simp [RowKit.intOf]; omega
      ·have ej : j = ks.length := by omega
       subst ej
       obtain ⟨g, cap, rfl, hfin⟩ := hL.fin hpos (by omega)
       have HFIN := Lib.hid hfin
       have c0 : wr.cell? ⟨w.heap.size + 1, 0, none⟩ = some (.int .i8 1) := by simp [World.cell?, hL.jb]
       have c1 : wr.cell? ⟨w.heap.size + 1, 1, none⟩ = some (.slice (some ⟨g, 0, none⟩) ks.length cap) := by simp [World.cell?, hL.jb]
       clear hL hfin
       go_wp2_with fail
       go_ret
       exact ⟨_, rfl, by rw [HE.out]; exact HFIN.out, HL.out.below⟩
    ·exact absurd rfl h2
end Go.Proofs.YtdkfmckbeagenaaGreatDoor
