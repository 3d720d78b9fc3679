/-
  Kids of nodes, laid into a row of one's own, sorted, each once: what the walk of shape.laid leans on.
 shape.laid: nodes as a filter in normal form.
-/
import Derived.Test.YtdkfmckbeagenaaGreatDoorQE2
import Derived.Test.YtdkfmckbeagenaaGreatDoorFltG17
import Derived.Test.YtdkfmckbeagenaaGreatDoorQD2
import Derived.Test.YtdkfmckbeagenaaGreatDoorQB1
namespace Go.Proofs.YtdkfmckbeagenaaGreatDoor
open Go.RowKit Go.FltLaw Go.Lib Go.RankLaw Go.Sort Go.Shelf

theorem sortK_heap {α : Type} [Inhabited α] (enc : α → List Value) (k : Nat) (w : World) (g m : Nat) (dk : Array α) (os : Array Obj) {b : Nat} (hb : b ≠ g) (hlt : b < w.heap.size) : (sortWorldK enc k w g 0 m dk os).heap[b]? = w.heap[b]? := by
 unfold sortWorldK
 rw [heap_grow_old _ _ (by rw [size_putRowK]; exact hlt)]
 unfold putRowK putRow mapBlock
 show (Array.modify w.heap g _)[b]? = _
 rw [Array.getElem?_modify, if_neg (Ne.symm hb)]
theorem setCells_heap (b : Nat) : ∀ (vs : List Value) (o : Nat) (w : World) {c : Nat}, c ≠ b → (w.setCells b o vs).heap[c]? = w.heap[c]?
 | [], _, _, _, _ => rfl
 | v :: r, o, w, c, h => by
  rw [World.setCells, setCells_heap b r (o + 1) _ h, Below.heap_setCell _ _ _ _ (by simpa using h)]
section
variable {α : Type} [Inhabited α] {enc : α → List Value} {w : World} {g m : Nat} {dk : Array α} {os : Array Obj} {o : Nat} {zs : List Value}
theorem done_heap {b : Nat} (hb : b ≠ g) (hlt : b < w.heap.size) : ((sortWorldK enc 9 w g 0 m dk os).setCells g o zs).heap[b]? = w.heap[b]? := by
 rw [setCells_heap _ _ _ _ hb, sortK_heap _ _ _ _ _ _ _ hb hlt]
theorem sortK_size : w.heap.size ≤ (sortWorldK enc 9 w g 0 m dk os).heap.size := by
 unfold sortWorldK
 rw [size_grow, size_putRowK]
 exact Nat.le_add_right _ _
theorem setCells_keeps (b : Nat) : ∀ (vs : List Value) (o : Nat) (w : World), (w.setCells b o vs).os = w.os ∧ (w.setCells b o vs).tape = w.tape ∧ (w.setCells b o vs).output = w.output
 | [], _, _ => ⟨rfl, rfl, rfl⟩
 | v :: r, o, w => by
  rw [World.setCells]
  exact setCells_keeps b r (o + 1) _
theorem sortK_below (hg : g < w.heap.size) : Below g w (sortWorldK enc 9 w g 0 m dk os) := ⟨rfl, rfl, rfl, sortK_size, fun b hb => sortK_heap _ _ _ _ _ _ _ (by omega) (by omega)⟩
theorem done_below (hg : g < w.heap.size) : Below g w ((sortWorldK enc 9 w g 0 m dk os).setCells g o zs) := by
 obtain ⟨h1, h2, h3⟩ := setCells_keeps g zs o (sortWorldK enc 9 w g 0 m dk os)
 refine ⟨h1.trans rfl, h2.trans rfl, h3.trans rfl, ?_, fun b hb => done_heap (by omega) (by omega)⟩
 rw [size_setCells]
 exact sortK_size
end
theorem done_cell {S : Nat → Prop} {w : World} {n : Nat} [Inhabited (El S w n)] {g : Nat} {d0 dk : Array (El S w n)} {m : Nat} {os : Array Obj} (hH : HoldsK El.c 9 w g 0 d0) (hg : g < w.heap.size) (hs : dk.size = d0.size) {i k : Nat} {zs : List Value} (hi : i < k) (hk : k ≤ dk.size) :
  ∀ j u, (dk[i]!).c[j]? = some u → ((sortWorldK El.c 9 w g 0 m dk os).setCells g (k * 9) zs).cell? ⟨g, i * 9 + j, none⟩ = some u := fun j u hu => by
 have hj : j < 9 := by have := (List.getElem?_eq_some_iff.1 hu).1; rwa [El.len] at this
 rw [World.cell?_setCells_out _ _ _ _ _ (fun _ _ => .inl (by show i * 9 + j < k * 9; omega))]
 exact el_range hH hg hs (by omega) rfl j u hu
theorem kids_news {S : Nat → Prop} {w : World} {n : Nat} {ks : List Flt} {ad : Addr} (hel : ∀ i f, ks[i]? = some f → ∃ v, FAtS S w n f v ∧ ∀ j u, v.cells[j]? = some u → w.cell? (ad.add (i * 9 + j)) = some u) :
  ∃ news : List Value, news.length = ks.length * 9 ∧ (∀ j u, news[j]? = some u → w.cell? (ad.add j) = some u) ∧ KidsS S w n ks news ∧ ∀ u ∈ news, u.oneCell' = true := by
 have each : ∀ i, i < ks.length → ∃ c : List Value, c.length = 9 ∧ (∀ u ∈ c, u.oneCell' = true) ∧ (∀ f, ks[i]? = some f → FAtS S w n f (.agg c.toArray)) ∧ ∀ j u, c[j]? = some u → w.cell? (ad.add (i * 9 + j)) = some u := fun i hi => by
  obtain ⟨v, h1, h2⟩ := hel i _ (List.getElem?_eq_getElem hi)
  obtain ⟨c, rfl, h3, h4⟩ := FAtS.cells9 h1
  refine ⟨c, h3, h4, fun f hf => ?_, fun j u hu => h2 j u (by rw [show (Value.agg c.toArray).cells = c.toArray from rfl]; simpa using hu)⟩
  rw [List.getElem?_eq_getElem hi] at hf
  injection hf with hf
  rw [← hf]
  exact h1
 obtain ⟨F, hF⟩ := Go.Deep.choose_lt each
 have hget : ∀ t, t < ks.length * 9 → ((List.range (ks.length * 9)).map fun t => (F (t / 9))[t % 9]!)[t]? = (F (t / 9))[t % 9]? := fun t ht => by
  have hi : t / 9 < ks.length := by omega
  have hl := (hF _ hi).1
  rw [List.getElem?_map, List.getElem?_range ht, List.getElem?_eq_getElem (by omega)]
  exact congrArg some (getElem!_pos (F (t / 9)) (t % 9) (by omega))
 refine ⟨(List.range (ks.length * 9)).map fun t => (F (t / 9))[t % 9]!, by simp, fun j u hu => ?_, fun i f hi => ?_, fun u hu => ?_⟩
 ·have hj : j < ks.length * 9 := by simpa using (List.getElem?_eq_some_iff.1 hu).1
  rw [hget j hj] at hu
  have := (hF (j / 9) (by omega)).2.2.2 _ _ hu
  rwa [show j / 9 * 9 + j % 9 = j by omega] at this
 ·have hlt := (List.getElem?_eq_some_iff.1 hi).1
  obtain ⟨h1, h2, h3, h4⟩ := hF i hlt
  refine ⟨_, h3 f hi, fun j u hu => ?_⟩
  rw [show (Value.agg (F i).toArray).cells = (F i).toArray from rfl] at hu
  have hu' : (F i)[j]? = some u := by simpa using hu
  have hj : j < 9 := by have := (List.getElem?_eq_some_iff.1 hu').1; omega
  rw [hget _ (by omega), show (i * 9 + j) / 9 = i by omega, show (i * 9 + j) % 9 = j by omega]
  exact hu'
 ·simp only [List.mem_map, List.mem_range] at hu
  obtain ⟨t, ht, rfl⟩ := hu
  have hi : t / 9 < ks.length := by omega
  have hl := (hF _ hi).1
  rw [getElem!_pos (F (t / 9)) (t % 9) (by omega)]
  exact (hF _ hi).2.1 _ (List.getElem_mem _)
theorem laids_app : ∀ (l m : List FltLaw.Node), laids (l ++ m) = laids l ++ laids m
 | [], m => by simp [laids]
 | x :: l, m => by simp [laids, laids_app l m]
theorem flat_app (k : Int) (l m : List Flt) : flat k (l ++ m) = flat k l ++ flat k m := by simp [flat]
theorem flat_step {xs : List FltLaw.Node} {j : Nat} {x : FltLaw.Node} (k : Int) (h : xs[j]? = some x) : flat k (laids (xs.take (j + 1))) = flat k (laids (xs.take j)) ++ flat1 k (FltLaw.laid x) := by
 rw [List.take_add_one, h]
 show flat k (laids (xs.take j ++ [x])) = _
 rw [laids_app, flat_app]
 congr 1
 simp [laids, flat, flat1]
theorem flat_le (k : Int) (xs : List FltLaw.Node) (j : Nat) : (flat k (laids (xs.take j))).length ≤ (flat k (laids xs)).length := by
 conv => rhs; rw [← List.take_append_drop j xs]
 rw [laids_app, flat_app, List.length_append]
 omega
structure Laying (w wr : World) (S : Nat → Prop) (n j : Nat) (k : Int) (A : Option Addr) (c : Nat) (xs : List FltLaw.Node) (kv : Value) (us : List Value) : Prop where
 below : Below w.heap.size w wr
 rb : wr.heap[w.heap.size]? = some (.cells zeroF9 26 (0, 0))
 jb : wr.heap[w.heap.size + 1]? = some (.cells #[.int .i8 k, .slice A xs.length c] 66 (0, 0))
 row : wr.ownsRow (w.heap.size + 2) 26 9 kv (flat k (laids (xs.take j))).length us
 kids : KidsS (GS S w wr kv) wr n (flat k (laids (xs.take j))) us
section
variable {w wr w3 w4 : World} {S : Nat → Prop} {n j g cap c : Nat} {k : Int} {A : Option Addr} {xs : List FltLaw.Node} {kv : Value} {us news : List Value} {x : FltLaw.Node}
theorem Laying.size (h : Laying w wr S n j k A c xs kv us) : w.heap.size + 2 ≤ wr.heap.size := by
 have := (Array.getElem?_eq_some_iff.1 h.jb).1
 omega
theorem Laying.start (w : World) (S : Nat → Prop) (n : Nat) (k : Int) (A : Option Addr) (c : Nat) (xs : List FltLaw.Node) : Laying w ((w.alloc (.cells zeroF9 26)).alloc (.cells #[.int .i8 k, .slice A xs.length c] 66)) S n 0 k A c xs (.slice none 0 0) [] :=
 ⟨((Below.refl _ _).alloc (Nat.le_refl _) _).alloc (by simp) _, heap_alloc2_old _ _ _, heap_alloc2_new _ _ _, by rw [List.take_zero]; exact World.ownsRow_nil _ _ _ _, by rw [List.take_zero]; exact KidsS.nil _ _ _ _⟩
theorem Laying.step {ms : List Flt} (hms : flat1 k (FltLaw.laid x) = ms) (hS : ∀ b, S b → b < w.heap.size) (h : Laying w wr S n j k A c xs kv us) (hx : xs[j]? = some x) (h3 : Below wr.heap.size wr w3) (hks : KidsS (fun b => S b ∨ (wr.heap.size ≤ b ∧ b < w3.heap.size)) w3 n ms news)
  (hg : w3.grownBy w4 kv.ownBlock) (hown : w4.ownsRow (w.heap.size + 2) 26 9 (.slice (some ⟨g, 0, none⟩) ((flat k (laids (xs.take j))).length + ms.length) cap) ((flat k (laids (xs.take j))).length + ms.length) (us ++ news))
  (hat : kv.ownBlock = some g ∨ w3.heap.size ≤ g) :
  Laying w w4 S n (j + 1) k A c xs (.slice (some ⟨g, 0, none⟩) ((flat k (laids (xs.take j))).length + ms.length) cap) (us ++ news) := by
 subst hms
 have hsz := h.size
 have s3 := h3.size
 have s4 := hg.size
 have hkb : ∀ b, kv.ownBlock = some b → w.heap.size + 2 ≤ b ∧ b < wr.heap.size := fun b e => h.row.lt b e
 have nk : ∀ b, b < w.heap.size + 2 → kv.ownBlock ≠ some b := fun b hb e => by have := hkb b e; omega
 have old : ∀ b, b < wr.heap.size → kv.ownBlock ≠ some b → w4.heap[b]? = wr.heap[b]? := fun b hb hne => by rw [hg.block b (by omega) hne.symm, h3.block b hb]
 have gne : ∀ b, b < w3.heap.size → kv.ownBlock ≠ some b → g ≠ b := fun b hb hne e => by
  subst e
  rcases hat with e | e
  ·exact hne e
  ·omega
 refine ⟨(h.below.trans (h3.mono (by omega))).grown hg (by omega) (fun b e => by have := hkb b e; omega), ?_, ?_, ?_, ?_⟩
 ·rw [old _ (by omega) (nk _ (by omega))]; exact h.rb
 ·rw [old _ (by omega) (nk _ (by omega))]; exact h.jb
 ·rw [flat_step k hx, List.length_append]; exact hown
 ·rw [flat_step k hx]
  refine KidsS.app h.row.1 ?_ ?_
  ·refine (h.kids.keep fun p hp => ?_).mono fun b hb => ?_
   ·rcases hp with hp | hp
    ·have := hS _ hp; exact World.cell?_of_block (old _ (by omega) (nk _ (by omega)))
    ·exact World.cell?_of_block (old _ hp.2.1 hp.2.2)
   ·rcases hb with hb | ⟨b1, b2, b3⟩
    ·exact .inl hb
    ·refine .inr ⟨b1, by omega, fun e => ?_⟩
     simp only [Value.ownBlock, Option.some.injEq] at e
     exact gne b (by omega) b3 e
  ·refine (hks.keep fun p hp => ?_).mono fun b hb => ?_
   ·have hlt : p.block < w3.heap.size ∧ kv.ownBlock ≠ some p.block := by
     rcases hp with hp | hp
     ·have := hS _ hp; exact ⟨by omega, nk _ (by omega)⟩
     ·exact ⟨by omega, fun e => by have := hkb _ e; omega⟩
    exact World.cell?_of_block (hg.block _ hlt.1 hlt.2.symm)
   ·rcases hb with hb | hb
    ·exact .inl hb
    ·refine .inr ⟨by omega, by omega, fun e => ?_⟩
     simp only [Value.ownBlock, Option.some.injEq] at e
     exact gne b (by omega) (fun e => by have := hkb _ e; omega) e
theorem own_holds {B : Nat} {e : TypeId} {m cc : Nat} {us : List Value} (h : w.ownsRow B e 9 (.slice (some ⟨g, 0, none⟩) m cc) m us) : Holds id w g 0 us.toArray := fun t ht => by
 have ht' : t < us.length := by simpa using ht
 have h1 := row_cell h (List.getElem?_eq_getElem ht')
 obtain ⟨_, hf | ⟨g', cap, cur, hv, hb, hg, _⟩⟩ := h
 ·exact absurd hf.1 (by simp)
 ·simp only [Value.slice.injEq, Option.some.injEq, Addr.mk.injEq] at hv
  obtain ⟨⟨rfl, _⟩, _, rfl⟩ := hv
  rw [Nat.zero_add]
  refine ⟨?_, by simp [World.frozen?, hg]⟩
  rw [h1, getElem!_pos us.toArray t ht]
  simp
end
theorem order_may {f g : Flt} (hf : may f) (hg : may g) : order f g = cmp f g := by simp [order, hf, hg]
section
variable {S : Nat → Prop} {w : World} {n g : Nat} [Inhabited (El S w n)]
theorem el_at (hg : g < w.heap.size) (hS : ∀ b, S b → b < w.heap.size ∧ b ≠ g) (x : El S w n) (m : Nat) (dk : Array (El S w n)) (os : Array Obj) : FAt false (sortWorldK El.c 9 w g 0 m dk os) 0 w.heap.size n x.f (.agg x.c.toArray) :=
 FAtS.to (fun b hb => ⟨Nat.zero_le _, (hS b hb).1⟩) (x.here.keep fun p hp => World.cell?_of_block (sortK_heap _ _ _ _ _ _ _ (hS _ hp).2 (hS _ hp).1))
theorem sort_cmp (hg : g < w.heap.size) (hS : ∀ b, S b → b < w.heap.size ∧ b ≠ g) (hv : MaxVar w) (hM : 1 < g) (size : Nat) : CmpLays Tryz.prog 27 #[] (El.c (S := S) (w := w) (n := n)) 9 elCf g 0 size w := fun m os dk _ x y => by
 have h := cmp_lays n x.f y.f _ _ (sortWorldK El.c 9 w g 0 m dk os) w.heap.size w.heap.size (el_at hg hS x m dk os) (el_at hg hS y m dk os) sortK_size sortK_size (hv.below (sortK_below hg) hM) (by have := sortK_size (enc := El.c) (w := w) (g := g) (m := m) (dk := dk) (os := os); omega)
 rw [order_may x.ok y.ok] at h
 exact h
theorem sort_eq (hg : g < w.heap.size) (hS : ∀ b, S b → b < w.heap.size ∧ b ≠ g) (hv : MaxVar w) (hM : 1 < g) (size : Nat) : EqLays (S := S) (w := w) (n := n) g size := fun m os dk _ x y => by
 have h := laid1_p n x.f y.f _ _ (sortWorldK El.c 9 w g 0 m dk os) w.heap.size w.heap.size (el_at hg hS x m dk os) (el_at hg hS y m dk os) sortK_size sortK_size (hv.below (sortK_below hg) hM) (by have := sortK_size (enc := El.c) (w := w) (g := g) (m := m) (dk := dk) (os := os); omega)
 rw [order_may x.ok y.ok] at h
 exact (Drawn.calls_ge h).mono fun e w' ⟨⟨h1, h2⟩, h3⟩ => ⟨h1, grown_of h2 (h3 _ h1)⟩
end
theorem _root_.Go.FltLaw.FAtS.open {S : Nat → Prop} {w : World} : ∀ {n : Nat} {f : Flt} {v : Value}, FAtS S w n f v → ∃ (KA : Option Addr) (kc : Nat) (MA : Option Addr) (mc : Nat) (k : Int) (ks : List Flt) (ds vl st : List UInt8) (ms : List (List UInt8)) (fn rl : List UInt8) (dn : Bool),
  f = .mk k ks ds vl st ms fn rl dn ∧ v = .agg #[.int .i8 k, .slice KA ks.length kc, .string ⟨ds.toArray⟩, .string ⟨vl.toArray⟩, .string ⟨st.toArray⟩, .slice MA ms.length mc, .string ⟨fn.toArray⟩, .string ⟨rl.toArray⟩, .bool dn] ∧ Fits k ks.length kc ds vl st ms mc fn rl ∧
   (0 < ks.length → ∃ ad, KA = some ad ∧ S ad.block ∧ ∀ i f, ks[i]? = some f → ∃ v, FAtS S w n f v ∧ ∀ j u, v.cells[j]? = some u → w.cell? (ad.add (i * 9 + j)) = some u)
 | 0, _, _, h => h.elim
 | n + 1, .mk .., _, ⟨KA, kc, MA, mc, h, h2, _, h4⟩ => ⟨KA, kc, MA, mc, _, _, _, _, _, _, _, _, _, rfl, h, h2, fun h0 => by
   obtain ⟨ad, e, h5, h6⟩ := h4 h0
   refine ⟨ad, e, h5, fun i f hi => ?_⟩
   obtain ⟨v, h7, h8⟩ := h6 i f hi
   exact ⟨v, h7.up (Nat.le_succ _), h8⟩⟩
theorem laid_pos {x : FltLaw.Node} {k : Int} (hx : FineN x) (hk : k = 0 ∨ k = 1) (h : kindOf (FltLaw.laid x) = k) : 0 < (kidsOf (FltLaw.laid x)).length := by
 obtain ⟨_, hF, _⟩ := laid_char hx
 generalize FltLaw.laid x = f at h hF
 obtain ⟨k', ks, ds, vl, st, ms, fn, rl, dn⟩ := f
 simp only [kindOf] at h
 subst h
 unfold Fine at hF
 exact (right_kind hF.2.1 (by omega)).2
theorem sizeNs_mem : ∀ {xs : List FltLaw.Node} {x : FltLaw.Node}, x ∈ xs → sizeN x ≤ sizeNs xs ∧ deepN x ≤ deepNs xs
 | y :: ys, x, h => by
  simp only [sizeNs, deepNs]
  rcases List.mem_cons.1 h with rfl | h
  ·omega
  ·have := sizeNs_mem h; omega
theorem comp_len {S : Nat → Prop} {w : World} {n : Nat} [Inhabited (El S w n)] {d dk : Array (El S w n)} {k : Nat} {L : List Flt} (h : (List.range k).map (fun j => dk[j]!.f) = canon L) : (canon L).length = k := by rw [← h]; simp
theorem comp_get {S : Nat → Prop} {w : World} {n : Nat} [Inhabited (El S w n)] {dk : Array (El S w n)} {k : Nat} {L : List Flt} (h : (List.range k).map (fun j => dk[j]!.f) = canon L) {i : Nat} {f : Flt} (hi : (canon L)[i]? = some f) : i < k ∧ f = dk[i]!.f := by
 rw [← h] at hi
 have hlt : i < k := by simpa using (List.getElem?_eq_some_iff.1 hi).1
 rw [List.getElem?_map, List.getElem?_range hlt] at hi
 injection hi with hi
 exact ⟨hlt, hi.symm⟩
theorem one_of {S : Nat → Prop} {w : World} {n : Nat} [Inhabited (El S w n)] {dk : Array (El S w n)} {L : List Flt} (k : Int) (h : (List.range 1).map (fun j => dk[j]!.f) = canon L) : oneF k L = dk[0]!.f := by
 unfold oneF
 rw [← h]
 rfl
theorem many_of {S : Nat → Prop} {w : World} {n : Nat} [Inhabited (El S w n)] {dk : Array (El S w n)} {m : Nat} {L : List Flt} (k : Int) (h : (List.range m).map (fun j => dk[j]!.f) = canon L) (hm : 2 ≤ m) : oneF k L = juncF k (canon L) := by
 have hl : (canon L).length = m := by rw [← h]; simp
 unfold oneF
 generalize canon L = c at hl
 match c, hl with
 | [], hl => simp at hl; omega
 | [x], hl => simp at hl; omega
 | x :: y :: c, _ => rfl
section
variable {w wr : World} {S : Nat → Prop} {n g cap N : Nat} [Inhabited (El (GS S w wr (.slice (some ⟨g, 0, none⟩) N cap)) wr n)] {d0 dk : Array (El (GS S w wr (.slice (some ⟨g, 0, none⟩) N cap)) wr n)} {m k o : Nat} {os : Array Obj} {zs : List Value} {L : List Flt} {cs : Array Value}
theorem end_cell (hS : ∀ b, S b → b < w.heap.size) (hwr : w.heap.size + 2 ≤ wr.heap.size) {p : Addr} (hp : GS S w wr (.slice (some ⟨g, 0, none⟩) N cap) p.block) (hg : w.heap.size + 2 ≤ g) :
  ((((sortWorldK El.c 9 wr g 0 m dk os).setCells g o zs).setRow w.heap.size cs).cell? p) = wr.cell? p := by
 have h : p.block ≠ w.heap.size ∧ p.block ≠ g ∧ p.block < wr.heap.size := by
  rcases hp with hp | ⟨h1, h2, h3⟩
  ·have := hS _ hp; omega
  ·refine ⟨by omega, fun e => h3 (by simp [Value.ownBlock, e]), h2⟩
 exact World.cell?_of_block ((setRow_other _ _ _ _ h.1).trans (done_heap h.2.1 h.2.2))
theorem end_size : wr.heap.size ≤ (((sortWorldK El.c 9 wr g 0 m dk os).setCells g o zs).setRow w.heap.size cs).heap.size := by
 simp only [setRow_size, size_setCells]
 exact sortK_size
theorem laid_one (hS : ∀ b, S b → b < w.heap.size) (hwr : w.heap.size + 2 ≤ wr.heap.size) (hg : w.heap.size + 2 ≤ g) (kind : Int) (hc : (List.range 1).map (fun j => dk[j]!.f) = canon L) :
  FAtS (fun b => S b ∨ (w.heap.size ≤ b ∧ b < (((sortWorldK El.c 9 wr g 0 m dk os).setCells g o zs).setRow w.heap.size cs).heap.size)) (((sortWorldK El.c 9 wr g 0 m dk os).setCells g o zs).setRow w.heap.size cs) (n + 1) (oneF kind L) (.agg (dk[0]!).c.toArray) := by
 have hz := end_size (w := w) (wr := wr) (g := g) (m := m) (dk := dk) (os := os) (o := o) (zs := zs) (cs := cs)
 rw [one_of kind hc]
 refine FAtS.up (Nat.le_succ _) (((dk[0]!).here.keep fun p hp => end_cell hS hwr hp hg).mono fun b hb => ?_)
 rcases hb with hb | hb
 ·exact .inl hb
 ·exact .inr ⟨by omega, by omega⟩
theorem laid_many (hS : ∀ b, S b → b < w.heap.size) (hwr : w.heap.size + 2 ≤ wr.heap.size) (hg : w.heap.size + 2 ≤ g) (hgr : g < wr.heap.size) (kind : Int) (hkd : kind = 0 ∨ kind = 1) (hc : (List.range k).map (fun j => dk[j]!.f) = canon L) (hk : 2 ≤ k) (hkd2 : k ≤ dk.size) (hk3 : k ≤ 65535) (hcap : k ≤ cap) (hcap2 : cap ≤ maxLen)
  (hH : HoldsK El.c 9 wr g 0 d0) (hs : dk.size = d0.size) :
  FAtS (fun b => S b ∨ (w.heap.size ≤ b ∧ b < (((sortWorldK El.c 9 wr g 0 m dk os).setCells g (k * 9) zs).setRow w.heap.size cs).heap.size)) (((sortWorldK El.c 9 wr g 0 m dk os).setCells g (k * 9) zs).setRow w.heap.size cs) (n + 1) (oneF kind L)
   (.agg #[.int .i8 kind, .slice (some ⟨g, 0, none⟩) k cap, .string ⟨#[]⟩, .string ⟨#[]⟩, .string ⟨#[]⟩, .slice none 0 0, .string ⟨#[]⟩, .string ⟨#[]⟩, .bool false]) := by
 have hz := end_size (w := w) (wr := wr) (g := g) (m := m) (dk := dk) (os := os) (o := k * 9) (zs := zs) (cs := cs)
 rw [many_of kind hc hk]
 have hl := comp_len (d := dk) hc
 refine ⟨some ⟨g, 0, none⟩, cap, none, 0, ?_, ⟨by omega, by omega, by rw [hl]; exact hcap, hcap2, by rw [hl]; omega, by simp, by simp, by simp, by simp, by unfold maxLen; omega, by simp, by simp, by simp, by simp⟩, fun h => by simp at h, fun _ => ⟨_, rfl, .inr ⟨by show w.heap.size ≤ g; omega, by show g < _; omega⟩, fun i f hi => ?_⟩⟩
 ·rw [hl]; rfl
 ·obtain ⟨hik, rfl⟩ := comp_get hc hi
  refine ⟨.agg (dk[i]!).c.toArray, ((dk[i]!).here.keep fun p hp => end_cell hS hwr hp hg).mono fun b hb => ?_, fun j u hu => ?_⟩
  ·rcases hb with hb | hb
   ·exact .inl hb
   ·exact .inr ⟨by omega, by omega⟩
  ·have e : (⟨g, 0, none⟩ : Addr).add (i * 9 + j) = ⟨g, i * 9 + j, none⟩ := by unfold Addr.add; split <;> simp_all
   rw [e, World.cell?_of_block (setRow_other _ _ _ _ (show g ≠ w.heap.size by omega))]
   exact done_cell hH hgr hs hik hkd2 j u (by rw [show (Value.agg (dk[i]!).c.toArray).cells = (dk[i]!).c.toArray from rfl] at hu; simpa using hu)
theorem laid_below (h : Below w.heap.size w wr) (hg : w.heap.size + 2 ≤ g) (hgr : g < wr.heap.size) : Below w.heap.size w (((sortWorldK El.c 9 wr g 0 m dk os).setCells g o zs).setRow w.heap.size cs) :=
 (h.trans ((done_below hgr).mono (by omega))).trans ⟨rfl, rfl, rfl, by simp, fun b hb => setRow_other _ _ _ _ (by omega)⟩
end
end Go.Proofs.YtdkfmckbeagenaaGreatDoor

namespace Go.Proofs.YtdkfmckbeagenaaGreatDoor
open Go.RowKit Go.FltLaw Go.Lib Go.RankLaw Go.Sort Go.Shelf

theorem aggT (w : World) : (isAgg 26).run Tryz.prog w = .ok true w := by kernel_rfl
theorem nineT (w : World) : (Go.sizeOf 26).run Tryz.prog w = .ok 9 w := by kernel_rfl
theorem enterCmp : ∀ (args : Array Value) (w : World), (callFunc 27 args).run Tryz.prog w = .ok (.enter 27 args) w := enters_of Tryz.func27 (by kernel_rfl) rfl
theorem sort_p {S : Nat → Prop} {w : World} {n g cap : Nat} [Inhabited (El S w n)] (d : Array (El S w n)) (hH : HoldsK El.c 9 w g 0 d) (hg : g < w.heap.size) (hS : ∀ b, S b → b < w.heap.size ∧ b ≠ g) (hv : MaxVar w) (hM : 1 < g) (hsz : d.size < 4611686018427387904) :
  Calls Tryz.prog 43 #[.slice (some ⟨g, 0, none⟩) d.size cap, .func (.func 27) #[] #[]] w fun e w' =>
   e = .returned (.tuple #[]) ∧ ∃ (d' : Array (El S w n)) (m : Nat) (os : Array Obj), PermIn 0 d.size d d' ∧ SortedIn (ltOf elCf) 0 d.size d' ∧ w' = sortWorldK El.c 9 w g 0 m d' os :=
 AnyQ.slices_SortFunc sortF 9 aggT nineT El.c El.len El.one elCf el_swo 27 #[] g 0 cap d w enterCmp (sort_cmp hg hS hv hM d.size) hH hg hsz
theorem taLL (v : Value) (w : World) : (Instr.typeAssert (.iface 63 v) 44 63 true).run Tryz.prog w = .ok (.tuple #[v, .bool true]) w := by kernel_rfl
theorem taJJ (v : Value) (w : World) : (Instr.typeAssert (.iface 66 v) 44 66 true).run Tryz.prog w = .ok (.tuple #[v, .bool true]) w := by kernel_rfl
theorem taJL (v : Value) (w : World) : (Instr.typeAssert (.iface 66 v) 44 63 true).run Tryz.prog w = .ok (.tuple #[.agg #[.int .i8 0, .slice none 0 0, .string ⟨#[]⟩, .string ⟨#[]⟩, .string ⟨#[]⟩, .slice none 0 0, .string ⟨#[]⟩, .string ⟨#[]⟩, .bool false, .bool false], .bool false]) w := by kernel_rfl
theorem alloc3_old (w : World) (o1 o2 o3 : Obj) : (((w.alloc o1).alloc o2).alloc o3).heap[w.heap.size]? = some o1 := kb_alloc (heap_alloc2_old w o1 o2)
theorem alloc3_new (w : World) (o1 o2 o3 : Obj) : (((w.alloc o1).alloc o2).alloc o3).heap[w.heap.size + 2]? = some o3 := by
 have := heap_alloc2_new (w.alloc o1) o2 o3
 simpa using this
theorem below_row2 (w : World) (o1 o2 : Obj) (cs : Array Value) : Below w.heap.size w (((w.alloc o1).alloc o2).setRow w.heap.size cs) :=
 (((Below.refl _ _).alloc (Nat.le_refl _) _).alloc (by simp) _).trans ⟨rfl, rfl, rfl, by simp, fun b hb => setRow_other _ _ _ _ (by omega)⟩
theorem below_row3 (w : World) (o1 o2 o3 : Obj) (cs : Array Value) : Below w.heap.size w ((((w.alloc o1).alloc o2).alloc o3).setRow w.heap.size cs) :=
 ((((Below.refl _ _).alloc (Nat.le_refl _) _).alloc (by simp) _).alloc (by simp; omega) _).trans ⟨rfl, rfl, rfl, by simp, fun b hb => setRow_other _ _ _ _ (by omega)⟩
theorem not_at {S : Nat → Prop} {w : World} {n : Nat} {f : Flt} {cs c3 : Array Value} {o1 o2 : Obj} {t : TypeId} (hF : FAtS S w n f (.agg c3)) (hS : ∀ b, S b → b < w.heap.size) (h2 : (((w.alloc o1).alloc o2).alloc (.cells c3 t)).heap[w.heap.size + 2]? = some (.cells c3 t (0, 0))) :
  FAtS (fun b => S b ∨ (w.heap.size ≤ b ∧ b < ((((w.alloc o1).alloc o2).alloc (.cells c3 t)).setRow w.heap.size cs).heap.size)) ((((w.alloc o1).alloc o2).alloc (.cells c3 t)).setRow w.heap.size cs) (n + 1) (notF f)
   (.agg #[.int .i8 2, .slice (some ⟨w.heap.size + 1 + 1, 0, none⟩) 1 1, .string ⟨#[]⟩, .string ⟨#[]⟩, .string ⟨#[]⟩, .slice none 0 0, .string ⟨#[]⟩, .string ⟨#[]⟩, .bool false]) := by
 have hb := below_row3 w o1 o2 (.cells c3 t) cs
 refine ⟨some ⟨w.heap.size + 1 + 1, 0, none⟩, 1, none, 0, rfl, ⟨by omega, by omega, by simp, by unfold maxLen; omega, by simp, by simp, by simp, by simp, by simp, by unfold maxLen; omega, by simp, by simp, by simp, by simp⟩, fun h => by simp at h, fun _ => ⟨_, rfl, .inr ⟨by simp; omega, by simp⟩, fun i g hi => ?_⟩⟩
 have hi0 : i = 0 := by have := (List.getElem?_eq_some_iff.1 hi).1; simp at this; omega
 subst hi0
 simp at hi
 subst hi
 refine ⟨.agg c3, (hF.keep fun p hp => hb.cell (hS _ hp)).mono fun b hb => .inl hb, fun j u hu => ?_⟩
 have e : (⟨w.heap.size + 1 + 1, 0, none⟩ : Addr).add (0 * 9 + j) = ⟨w.heap.size + 2, j, none⟩ := by unfold Addr.add; split <;> simp_all
 rw [e]
 have h3 : ((((w.alloc o1).alloc o2).alloc (.cells c3 t)).setRow w.heap.size cs).heap[w.heap.size + 2]? = some (.cells c3 t (0, 0)) := by rw [setRow_other _ _ _ _ (by omega)]; exact h2
 have hu' : c3[j]? = some u := hu
 unfold World.cell?
 simp only [h3]
 exact hu'
theorem news_alloc {w : World} {ad : Addr} {news : List Value} (h : ∀ j u, news[j]? = some u → w.cell? (ad.add j) = some u) (hlt : ad.block < w.heap.size) (o : Obj) : ∀ j u, news[j]? = some u → (w.alloc o).cell? (ad.add j) = some u := fun j u hu =>
 (((Below.refl _ w).alloc (Nat.le_refl _) o).cell (p := ad.add j) (by rw [RankLaw.add_block]; exact hlt)).trans (h j u hu)
theorem kids_alloc {S : Nat → Prop} {w : World} {b0 n B : Nat} {l : List Flt} {xs : List Value} (hS : ∀ b, S b → b < B) (hB : B ≤ w.heap.size) (h : KidsS (fun b => S b ∨ (b0 ≤ b ∧ b < w.heap.size)) w n l xs) (o : Obj) : KidsS (fun b => S b ∨ (b0 ≤ b ∧ b < (w.alloc o).heap.size)) (w.alloc o) n l xs := by
 refine (h.keep fun p hp => ((Below.refl _ w).alloc (Nat.le_refl _) o).cell ?_).mono fun b hb => ?_
 ·rcases hp with hp | hp
  ·have := hS _ hp; omega
  ·exact hp.2
 ·rcases hb with hb | hb
  ·exact .inl hb
  ·exact .inr ⟨hb.1, by simp; omega⟩
theorem perm_size {α : Type} [Inhabited α] {a b : Nat} {d d' : Array α} (h : PermIn a b d d') : d'.size = d.size := h.1
theorem nine_of {w : World} {g : Nat} {a0 a1 a2 a3 a4 a5 a6 a7 a8 : Value} (h : ∀ j u, [a0, a1, a2, a3, a4, a5, a6, a7, a8][j]? = some u → w.cell? ⟨g, 0 * 9 + j, none⟩ = some u) :
  w.cell? ⟨g, 0, none⟩ = some a0 ∧ w.cell? ⟨g, 1, none⟩ = some a1 ∧ w.cell? ⟨g, 2, none⟩ = some a2 ∧ w.cell? ⟨g, 3, none⟩ = some a3 ∧ w.cell? ⟨g, 4, none⟩ = some a4 ∧ w.cell? ⟨g, 5, none⟩ = some a5 ∧ w.cell? ⟨g, 6, none⟩ = some a6 ∧ w.cell? ⟨g, 7, none⟩ = some a7 ∧ w.cell? ⟨g, 8, none⟩ = some a8 :=
 ⟨h 0 _ rfl, h 1 _ rfl, h 2 _ rfl, h 3 _ rfl, h 4 _ rfl, h 5 _ rfl, h 6 _ rfl, h 7 _ rfl, h 8 _ rfl⟩
theorem nine_all9 {S : Nat → Prop} {w : World} {n : Nat} {x : El S w n} {a0 a1 a2 a3 a4 a5 a6 a7 a8 : Value} (h : x.c = [a0, a1, a2, a3, a4, a5, a6, a7, a8]) : (#[a0, a1, a2, a3, a4, a5, a6, a7, a8] : Array Value).all (·.oneCell') = true :=
 all_oneCell_toArray (cs := [a0, a1, a2, a3, a4, a5, a6, a7, a8]) (by rw [← h]; exact x.one)
theorem laid_junc (k : Int) (xs : List FltLaw.Node) : FltLaw.laid (.junc k xs) = oneF k (flat k (laids xs)) := by rw [FltLaw.laid]
def Laid1 (n : Nat) (x : FltLaw.Node) (S : Nat → Prop) (w : World) (e : Ending) (w' : World) : Prop := ∃ v', e = .returned v' ∧ FAtS (fun b => S b ∨ (w.heap.size ≤ b ∧ b < w'.heap.size)) w' n (FltLaw.laid x) v' ∧ Below w.heap.size w w'
theorem compact_q {S : Nat → Prop} {w : World} {n : Nat} [Inhabited (El S w n)] (g cap N : Nat) (d d0 : Array (El S w n)) (m0 : Nat) (os0 : Array Obj) (hN : d.size = N) (hH : HoldsK El.c 9 w g 0 d0) (hs : d.size = d0.size) (hg : g < w.heap.size) (hpos : 0 < N) (hcap : N ≤ cap) (hc2 : cap ≤ maxLen) (hsz : N ≤ 65535)
  (hsort : SortedIn (ltOf elCf) 0 N d) (heq : EqLays (S := S) (w := w) (n := n) g N) :
  Calls Tryz.prog 44 #[.slice (some ⟨g, 0, none⟩) N cap, .func (.func 45) #[] #[]] (sortWorldK El.c 9 w g 0 m0 d os0) fun e w' =>
   ∃ (k : Nat) (dk : Array (El S w n)) (m : Nat) (os : Array Obj) (zs : List Value), e = .returned (.slice (some ⟨g, 0, none⟩) k cap) ∧ Comp d dk d.size k ∧ w' = (sortWorldK El.c 9 w g 0 m dk os).setCells g (k * 9) zs := by
 subst hN
 exact (compact_p g cap d d0 m0 os0 hH hs hg hpos hcap hc2 hsz hsort heq).mono fun e w' ⟨k, dk, m, os, zs, h1, h2, _, h4⟩ => ⟨k, dk, m, os, zs, h1, h2, h4⟩
theorem sort_q {S : Nat → Prop} {w : World} {n g cap N : Nat} [Inhabited (El S w n)] (d : Array (El S w n)) (hN : d.size = N) (hH : HoldsK El.c 9 w g 0 d) (hg : g < w.heap.size) (hS : ∀ b, S b → b < w.heap.size ∧ b ≠ g) (hv : MaxVar w) (hM : 1 < g) (hsz : N ≤ 65535) :
  Calls Tryz.prog 43 #[.slice (some ⟨g, 0, none⟩) N cap, .func (.func 27) #[] #[]] w fun e w' =>
   e = .returned (.tuple #[]) ∧ ∃ (d' : Array (El S w n)) (m : Nat) (os : Array Obj), PermIn 0 d.size d d' ∧ SortedIn (ltOf elCf) 0 N d' ∧ w' = sortWorldK El.c 9 w g 0 m d' os := by
 subst hN
 exact sort_p d hH hg hS hv hM (by omega)
theorem infoF26 : (Tryz.prog.info? 26).map (fun i => (i.zero, i.size, i.bytes)) = some (some (.agg zeroF9), 9, 144) := by kernel_rfl
set_option maxHeartbeats 3200000 in
set_option maxRecDepth 100000 in
theorem laid_p : ∀ (fuel : Nat) (x : FltLaw.Node) (v : Value) (w : World) (S : Nat → Prop), NodeAt S w fuel x v → (∀ b, S b → b < w.heap.size) → FineN x → sizeN x ≤ 65536 → deepN x ≤ 65 → MaxVar w → 1 < w.heap.size →
  Calls Tryz.prog 25 #[v] w (Laid1 fuel x S w) := by
 intro fuel
 induction fuel with
 | zero => intro x v w S h; exact h.elim
 | succ fuel ih =>
  intro x v w S hN hS hf hsz hdp hv hM
  cases x with
  | lit f b =>
   obtain ⟨KA, kc, MA, mc, k, ks, ds, vl, st, ms, fn, rl, dn, rfl, hF⟩ := hN
   have HF := Lib.hid hF
   have HSS := Lib.hid hS
   have ta := taLL
   clear ih hv hF hS hf hsz hdp
   cases b with
   | true =>
    have HR := fun o o' => Lib.hid (alloc3_old w (.cells zeroF9 26) o o')
    have H2 := fun o o' => Lib.hid (alloc3_new w o o' (.cells #[.int .i8 k, .slice KA ks.length kc, .string ⟨ds.toArray⟩, .string ⟨vl.toArray⟩, .string ⟨st.toArray⟩, .slice MA ms.length mc, .string ⟨fn.toArray⟩, .string ⟨rl.toArray⟩, .bool dn] 26))
    go_enter Tryz.func25, Tryz.ntmps25
    go_wp2_with (refine wpList_store_row rfl 26 (.tmp 2) (.tmp 18) rfl w.heap.size #[.int .i8 2, .slice (some ⟨w.heap.size + 1 + 1, 0, none⟩) 1 1, .string ⟨#[]⟩, .string ⟨#[]⟩, .string ⟨#[]⟩, .slice none 0 0, .string ⟨#[]⟩, .string ⟨#[]⟩, .bool false] rfl rfl 26 zeroF9 (HR _ _).out (by kernel_rfl) rfl (by simp [Value.oneCell']) ?_)
    (try simp only [Exit.inBlock, Exit.then])
    refine bodyPost_ret (results_cell_row rfl _ _ w.heap.size 26 _ (0, 0) _ rfl (setRow_heap _ _ _ _ _ _ (HR _ _).out) Tryz.underlying26 rfl (by kernel_rfl)) rfl ?_
    exact ⟨_, rfl, not_at HF.out HSS.out (H2 _ _).out, below_row3 _ _ _ _ _⟩
   | false =>
    have HR := fun o => Lib.hid (heap_alloc2_old w (.cells zeroF9 26) o)
    go_enter Tryz.func25, Tryz.ntmps25
    go_wp2_with (refine wpList_store_row rfl 26 (.tmp 2) (.tmp 20) rfl w.heap.size #[.int .i8 k, .slice KA ks.length kc, .string ⟨ds.toArray⟩, .string ⟨vl.toArray⟩, .string ⟨st.toArray⟩, .slice MA ms.length mc, .string ⟨fn.toArray⟩, .string ⟨rl.toArray⟩, .bool dn] rfl rfl 26 zeroF9 (HR _).out (by kernel_rfl) rfl (by simp [Value.oneCell']) ?_)
    (try simp only [Exit.inBlock, Exit.then])
    refine bodyPost_ret (results_cell_row rfl _ _ w.heap.size 26 _ (0, 0) _ rfl (setRow_heap _ _ _ _ _ _ (HR _).out) Tryz.underlying26 rfl (by kernel_rfl)) rfl ?_
    refine ⟨_, rfl, FAtS.up (Nat.le_succ _) ((HF.out.keep fun p hp => ?_).mono fun b hb => .inl hb), below_row2 _ _ _ _⟩
    exact (below_row2 _ _ _ _).cell (HSS.out _ hp)
  | junc k xs =>
   obtain ⟨A, cc, rfl, hc1, hc2, hc3, hx⟩ := hN
   obtain ⟨hmay, hflen⟩ := flat_may hf hsz hdp
   have hf0 := hf
   unfold FineN at hf
   obtain ⟨hk, hne, hfs⟩ := hf
   have hpos : 0 < xs.length := List.length_pos_iff.2 hne
   have hflne : flat k (laids xs) ≠ [] := by
    obtain ⟨c1, _, _, c4⟩ := laids_char hfs
    refine (flat_norm hk (fun y hy => (c1 y hy).1.norm)).1 fun e => ?_
    rw [e] at c4
    simp at c4
    omega
   obtain ⟨ad, rfl, hadS, hel⟩ := hx hpos
   have hadb := hS _ hadS
   simp only [sizeN] at hsz
   simp only [deepN] at hdp
   obtain ⟨i0, hi, hz0, hz1, hz2⟩ := info_parts infoF26
   have IH := Lib.hid ih
   have HEL := Lib.hid hel
   have HSS := Lib.hid hS
   have HFS := Lib.hid hfs
   have HMAY := Lib.hid hmay
   have HNE := Lib.hid hflne
   have HV := Lib.hid hv
   have HK01 := Lib.hid hk
   have HSZ := Lib.hid (And.intro hsz hdp)
   have ta1 := taJL
   have ta2 := taJJ
   clear ih hel hS hfs hmay hflne hv hx hne hk hf0 hsz hdp
   go_enter Tryz.func25, Tryz.ntmps25
   go_wp2_with fail
   go_loopw [5, 27] (fun kv i wr => ∃ (j : Nat) (us : List Value), j ≤ xs.length ∧ i = .int .i64 j ∧ Laying w wr S fuel j k (some ad) cc xs kv us) (fun _ i _ => xs.length - (RowKit.intOf i).toNat)
   case atStart => exact ⟨0, [], Nat.zero_le _, rfl, Laying.start _ _ _ _ _ _ _⟩
   case round =>
    obtain ⟨j, us, hj, rfl, hL⟩ := hrel
    have HL := Lib.hid hL
    have hsz := hL.size
    by_cases hlt : j < xs.length
    ·have hke := List.getElem?_eq_getElem hlt
     generalize xs[j] = x at hke
     obtain ⟨u, hN, hcell⟩ := HEL.out j x hke
     have l0 : wr.cell? (ad.add j) = some u := (hL.below.cell (p := ad.add j) (by rw [RankLaw.add_block]; exact hadb)).trans hcell
     obtain ⟨t0, z0, rfl⟩ := NAt.iface hN
     have HN := Lib.hid (NAt.keep (w' := wr) (fun p hp => hL.below.cell (HSS.out _ hp)) hN)
     have HX := Lib.hid (fineNs_mem HFS.out hke)
     have HXS := Lib.hid (sizeNs_mem (List.mem_of_getElem? hke))
     have HKE := Lib.hid hke
     have HVR := Lib.hid (HV.out.below hL.below hM)
     have HRow := Lib.hid hL.row
     have HJB := Lib.hid hL.jb
     have hcnt : (flat k (laids (xs.take j))).length + (flat1 k (FltLaw.laid x)).length ≤ 65535 := by
      have := flat_le k xs (j + 1)
      rw [flat_step k hke, List.length_append] at this
      omega
     clear hN hcell hke hL
     by_cases hkk : kindOf (FltLaw.laid x) = k
     ·go_wp2_with (first
       | (go_at_call 25; (with_reducible refine (IH.out x _ _ S HN.out (fun b hb => by have := HSS.out b hb; omega) HX.out (by have := HXS.out.1; have := HSZ.out.1; omega) (by have := HXS.out.2; have := HSZ.out.2; omega) HVR.out (by omega)).mono ?_); rintro e w2 ⟨v2, rfl, hf2, hb2⟩; have hz2w := hb2.size; have HB2 := Lib.hid hb2; have HF2 := Lib.hid hf2; have HJ2 := Lib.hid ((hb2.block (w.heap.size + 1) (by omega)).trans HJB.out); have c0 : ∀ o, (w2.alloc o).cell? ⟨w.heap.size + 1, 0, none⟩ = some (.int .i8 k) := (fun o => by simp [World.cell?, kb_alloc (o' := o) HJ2.out]); obtain ⟨kA, kc2, mA, mc2, kq, ksq, q2, q3, q4, msq, q6, q7, xq, hxe, rfl, hfit2, hks2⟩ := FAtS.open hf2; have hkq : kq = k := (by rw [hxe] at hkk; exact hkk); have hms : flat1 k (FltLaw.laid x) = ksq := (by unfold flat1; rw [if_pos hkk, hxe]; rfl); have hkp : 0 < ksq.length := (by have := laid_pos HX.out HK01.out hkk; rw [hxe] at this; exact this); obtain ⟨ad2, rfl, hs2, hel2⟩ := hks2 hkp; obtain ⟨news, hnl, hnc, hnk, hno⟩ := kids_news hel2; have hlt2 : ad2.block < w2.heap.size := (by rcases hs2 with h | h; have := HSS.out _ h; omega; exact h.2); rw [hms] at hcnt; have HNC := Lib.hid (news_alloc hnc hlt2); have HNK := Lib.hid (kids_alloc HSS.out (by omega) hnk); have HNL := Lib.hid hnl; have HNO := Lib.hid hno; have HMS := Lib.hid hms; clear hf2 hb2 hxe hfit2 hks2 hs2 hel2 hnl hnc hnk hno hms hlt2)
       | (at_builtin; refine wpList_append_lies _ rfl (.tmp 38) (.tmp 40) _ rfl (w.heap.size + 2) 26 i0 _ 9 144 Tryz.underlying23 hi hz0 hz1 hz2 rfl (by decide) u5 (flat k (laids (xs.take j))).length us rfl ((own_later HRow.out HB2.out).alloc _) ad2 ksq.length kc2 news rfl HNL.out (HNC.out _) HNO.out (by omega) (by unfold maxLen; omega) (by omega) (by simp; omega) _ rfl ?_; intro g cap w4 hown4 hg4 hat4 hlt4; have HO4 := Lib.hid hown4; have HG4 := Lib.hid hg4; have HAT4 := Lib.hid hat4; clear hown4 hg4 hat4))
      go_round
      case rel => exact ⟨j + 1, us ++ news, by omega, by go_num, HL.out.step HMS.out HSS.out HKE.out ((HB2.out.alloc (by omega) _)) (HNK.out _) HG4.out HO4.out (HAT4.out.imp id fun e => by rw [e]; exact Nat.le_refl _)⟩
      case measure => simp [RowKit.intOf]; omega
     ·go_wp2_with (first
       | (go_at_call 25; (with_reducible refine (IH.out x _ _ S HN.out (fun b hb => by have := HSS.out b hb; omega) HX.out (by have := HXS.out.1; have := HSZ.out.1; omega) (by have := HXS.out.2; have := HSZ.out.2; omega) HVR.out (by omega)).mono ?_); rintro e w2 ⟨v2, rfl, hf2, hb2⟩; have hz2w := hb2.size; have HB2 := Lib.hid hb2; have HF2 := Lib.hid hf2; have HJ2 := Lib.hid ((hb2.block (w.heap.size + 1) (by omega)).trans HJB.out); have c0 : ∀ o, (w2.alloc o).cell? ⟨w.heap.size + 1, 0, none⟩ = some (.int .i8 k) := (fun o => by simp [World.cell?, kb_alloc (o' := o) HJ2.out]); obtain ⟨kA, kc2, mA, mc2, kq, ksq, q2, q3, q4, msq, q6, q7, xq, hxe, rfl, hfit2, hks2⟩ := FAtS.open hf2; have hkq : ¬ kq = k := (by rw [hxe] at hkk; exact hkk); have hms : flat1 k (FltLaw.laid x) = [FltLaw.laid x] := (by unfold flat1; rw [if_neg hkk]); rw [hms] at hcnt; have hcnt2 : (flat k (laids (xs.take j))).length + 1 ≤ 65535 := hcnt; have HNK := Lib.hid (fun o o' => kids_alloc (B := w.heap.size) HSS.out (by simp; omega) (kids_alloc (B := w.heap.size) HSS.out (by omega) (KidsS.one HF2.out) o) o'); have HMS := Lib.hid hms; clear hf2 hb2 hxe hfit2 hks2 hms)
       | (at_builtin; refine wpList_append_lies _ rfl (.tmp 42) (.tmp 44) _ rfl (w.heap.size + 2) 26 i0 _ 9 144 Tryz.underlying23 hi hz0 hz1 hz2 rfl (by decide) u5 (flat k (laids (xs.take j))).length us rfl (((own_later HRow.out HB2.out).alloc _).alloc _) ⟨w2.heap.size + 1, 0, none⟩ 1 1 [.int .i8 kq, .slice kA ksq.length kc2, .string ⟨q2.toArray⟩, .string ⟨q3.toArray⟩, .string ⟨q4.toArray⟩, .slice mA msq.length mc2, .string ⟨q6.toArray⟩, .string ⟨q7.toArray⟩, .bool xq] rfl rfl (news_new (w2.alloc _) #[.int .i8 kq, .slice kA ksq.length kc2, .string ⟨q2.toArray⟩, .string ⟨q3.toArray⟩, .string ⟨q4.toArray⟩, .slice mA msq.length mc2, .string ⟨q6.toArray⟩, .string ⟨q7.toArray⟩, .bool xq] _ (by simp)) (nine_one _ _ _ _ _ _ _ _ _ _ _ _ _) (by decide) (by unfold maxLen; omega) (by omega) (by simp; omega) _ rfl ?_; intro g cap w4 hown4 hg4 hat4 hlt4; have HO4 := Lib.hid hown4; have HG4 := Lib.hid hg4; have HAT4 := Lib.hid hat4; clear hown4 hg4 hat4))
      go_round
      case rel => exact ⟨j + 1, us ++ [.int .i8 kq, .slice kA ksq.length kc2, .string ⟨q2.toArray⟩, .string ⟨q3.toArray⟩, .string ⟨q4.toArray⟩, .slice mA msq.length mc2, .string ⟨q6.toArray⟩, .string ⟨q7.toArray⟩, .bool xq], by omega, by go_num, HL.out.step HMS.out HSS.out HKE.out ((HB2.out.alloc (by omega) _).alloc (by simp; omega) _) (HNK.out _ _) HG4.out HO4.out (HAT4.out.imp id fun e => by rw [e]; exact Nat.le_refl _)⟩
      case measure => simp [RowKit.intOf]; omega
    ·have ej : j = xs.length := by omega
     subst ej
     have hrow := hL.row
     have hkids := hL.kids
     have hbelow := hL.below
     have hrb := hL.rb
     have hjb := hL.jb
     rw [List.take_length] at hrow hkids
     have hLpos : 0 < (flat k (laids xs)).length := List.length_pos_iff.2 HNE.out
     obtain ⟨g, cap, rfl, hgb, hgl⟩ := hrow.form hLpos
     obtain ⟨_, _, r3, r4⟩ := row_form hrow
     obtain ⟨inst, d, hds, hfl, hmem⟩ := els hkids HMAY.out hrow.1 hLpos
     have hH : HoldsK El.c 9 wr g 0 d := by
      show Holds id wr g 0 (flatK El.c 9 d)
      rw [hfl]
      exact own_holds hrow
     have hLS : ∀ b, GS S w wr (.slice (some ⟨g, 0, none⟩) (flat k (laids xs)).length cap) b → b < wr.heap.size ∧ b ≠ g := fun b hb => by
      rcases hb with hb | ⟨h1, h2, h3⟩
      ·have := HSS.out b hb; omega
      ·exact ⟨h2, fun e => h3 (by simp [Value.ownBlock, e])⟩
     have HH := Lib.hid hH
     have HLS := Lib.hid hLS
     have HDS := Lib.hid hds
     have HMEM := Lib.hid hmem
     have HVW := Lib.hid (HV.out.below hbelow hM)
     have HBW := Lib.hid hbelow
     have HRB := Lib.hid hrb
     have HJB := Lib.hid hjb
     clear hH hLS hfl hmem hrow hkids hbelow hrb hjb hL HL hds ta1 ta2
     go_upto_region 20 with (first
      | (go_at_call 43; (with_reducible refine (sort_q d HDS.out HH.out hgl HLS.out HVW.out (by omega) hflen).mono ?_); rintro e w5 ⟨rfl, d', m5, os5, hperm, hsort, rfl⟩; have HP := Lib.hid hperm; have HSO := Lib.hid hsort; clear hperm hsort)
      | (go_at_call 44; (with_reducible refine (compact_q g cap _ d' d m5 os5 ((perm_size HP.out).trans HDS.out) HH.out (perm_size HP.out) hgl hLpos r3 r4 hflen HSO.out (sort_eq hgl HLS.out HVW.out (by omega) _)).mono ?_); rintro e w6 ⟨kk, dk, m6, os6, zs, rfl, hcomp, hw6⟩; have HCO := Lib.hid hcomp; have HCN := Lib.hid (hcomp.canon (l := flat k (laids xs)) (fun x => (HMEM.out x).trans (perm_mem HP.out x).symm)); obtain ⟨a0, a1, a2, a3, a4, a5, a6, a7, a8, ha⟩ := El.form dk[0]!; have HA := Lib.hid ha; have hkp := hcomp.pos; have hkle := hcomp.le; have hks := hcomp.size; have HKS := Lib.hid hks; have hdc := (fun j u hu => done_cell (m := m6) (os := os6) (zs := zs) HH.out hgl (hks.trans (perm_size HP.out)) (i := 0) hkp (by omega) j u hu); rw [ha, ← hw6] at hdc; obtain ⟨f0, f1, f2, f3, f4, f5, f6, f7, f8⟩ := nine_of hdc; have HW6 := Lib.hid hw6; have hj6 : w6.heap[w.heap.size + 1]? = some (.cells #[.int .i8 k, .slice (some ad) xs.length cc] 66 (0, 0)) := (by rw [hw6, done_heap (by omega) (by omega)]; exact HJB.out); have c0 : w6.cell? ⟨w.heap.size + 1, 0, none⟩ = some (.int .i8 k) := (by simp [World.cell?, hj6]); have HR6 := Lib.hid (show w6.heap[w.heap.size]? = some (.cells zeroF9 26 (0, 0)) by rw [hw6, done_heap (by omega) (by omega)]; exact HRB.out); have HON := Lib.hid (nine_all9 ha); have hkz : (0 : Int) < (kk : Int) := (by omega); clear hcomp ha hks hdc hw6 hj6))
     by_cases e1 : kk = 1
     ·have e1' : (kk : Int) = 1 := by omega
      go_wp2_with (refine wpList_store_row rfl 26 (.tmp 2) (.tmp 56) rfl w.heap.size #[a0, a1, a2, a3, a4, a5, a6, a7, a8] rfl rfl 26 zeroF9 HR6.out (by kernel_rfl) rfl HON.out ?_)
      (try simp only [Exit.inBlock, Exit.then])
      refine bodyPost_ret (results_cell_row rfl _ _ w.heap.size 26 _ (0, 0) _ rfl (setRow_heap _ _ _ _ _ _ HR6.out) Tryz.underlying26 rfl (by kernel_rfl)) rfl ?_
      have hw6 := HW6.out
      have hc := HCN.out
      rw [e1] at hc
      clear HR6 f0 f1 f2 f3 f4 f5 f6 f7 f8 c0
      subst hw6
      refine ⟨_, rfl, ?_, laid_below HBW.out hgb hgl⟩
      rw [laid_junc]
      have := laid_one (m := m6) (os := os6) (o := kk * 9) (zs := zs) (cs := #[a0, a1, a2, a3, a4, a5, a6, a7, a8]) HSS.out hsz hgb k hc
      rw [HA.out] at this
      exact this
     ·have e2 : ¬ (kk : Int) = 1 := by omega
      have e1 : 2 ≤ kk := by omega
      go_wp2_with (refine wpList_store_row rfl 26 (.tmp 2) (.tmp 60) rfl w.heap.size #[.int .i8 k, .slice (some ⟨g, 0, none⟩) kk cap, .string ⟨#[]⟩, .string ⟨#[]⟩, .string ⟨#[]⟩, .slice none 0 0, .string ⟨#[]⟩, .string ⟨#[]⟩, .bool false] rfl rfl 26 zeroF9 HR6.out (by kernel_rfl) rfl (by simp [Value.oneCell']) ?_)
      (try simp only [Exit.inBlock, Exit.then])
      refine bodyPost_ret (results_cell_row rfl _ _ w.heap.size 26 _ (0, 0) _ rfl (setRow_heap _ _ _ _ _ _ HR6.out) Tryz.underlying26 rfl (by kernel_rfl)) rfl ?_
      have hw6 := HW6.out
      have hd5 := (perm_size HP.out).trans HDS.out
      have hdk := HKS.out
      clear HR6 f0 f1 f2 f3 f4 f5 f6 f7 f8 c0
      subst hw6
      refine ⟨_, rfl, ?_, laid_below HBW.out hgb hgl⟩
      rw [laid_junc]
      exact laid_many (m := m6) (os := os6) (zs := zs) HSS.out hsz hgb hgl k HK01.out HCN.out e1 (by omega) (by omega) (by omega) r4 HH.out (hdk.trans (perm_size HP.out))
end Go.Proofs.YtdkfmckbeagenaaGreatDoor
