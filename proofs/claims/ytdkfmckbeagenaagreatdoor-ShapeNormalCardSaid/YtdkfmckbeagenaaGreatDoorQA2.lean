/-
  A filter that lies in memory: 'FAt'; what comes in as one. No program.
 A filter lent: its lists in rows of their own. Plain laws, no program.
 A filter whose lists lie in some set of blocks; lists of filters. No program.
 The normal form of a filter, in plain Lean: by the document's definition and by way of nodes it is the same. No program.
 The normal form: its parts, its depth, that it may be; of its own normal form. Plain Lean, no program.
 The normal form of a normal form; the order of kids, kids twice, kinds within their own kind, Nots. Plain Lean, no program.
 Nodes in memory: values of an interface type that hold an item and a mark, or a kind and a list of nodes. No program.
-/
import Derived.Test.YtdkfmckbeagenaaGreatDoorQA1
import Derived.Deep.Strs
import Derived.Deep.Fields
import GoSem.ClaimJoined
namespace Go.FltLaw
open Go.RowKit Go.ChangeShapes Go.WideShapes Go.Deep

def txt (l : List UInt8) : Value := .string ⟨l.toArray⟩
def spareTxt : Value := txt [115, 112, 97, 114, 101]
def flt (k : Int) (KA : Option Addr) (kn kc : Nat) (ds vl st : List UInt8) (MA : Option Addr) (mn mc : Nat) (fn rl : List UInt8) (dn : Bool) : Value :=
 .agg #[.int .i8 k, .slice KA kn kc, .string ⟨ds.toArray⟩, .string ⟨vl.toArray⟩, .string ⟨st.toArray⟩, .slice MA mn mc, .string ⟨fn.toArray⟩, .string ⟨rl.toArray⟩, .bool dn]
structure Fits (k : Int) (kn kc : Nat) (ds vl st : List UInt8) (ms : List (List UInt8)) (mc : Nat) (fn rl : List UInt8) : Prop where
 k0 : -128 ≤ k
 k1 : k ≤ 127
 kc0 : kn ≤ kc
 kc1 : kc ≤ maxLen
 kn1 : kn * 144 ≤ 140737488351232
 ds1 : ds.length ≤ 140737488351232
 vl1 : vl.length ≤ 140737488351232
 st1 : st.length ≤ 140737488351232
 mc0 : ms.length ≤ mc
 mc1 : mc ≤ maxLen
 mn1 : ms.length * 16 ≤ 140737488351232
 ms1 : ∀ m ∈ ms, m.length ≤ 140737488351232
 fn1 : fn.length ≤ 140737488351232
 rl1 : rl.length ≤ 140737488351232
def Spare (w : World) (lo hi : Nat) (KA : Option Addr) (kn kc : Nat) (MA : Option Addr) (mn mc : Nat) : Prop :=
 ∃ kb mb, KA = some ⟨kb, 0, none⟩ ∧ MA = some ⟨mb, 0, none⟩ ∧ lo ≤ kb ∧ kb < hi ∧ lo ≤ mb ∧ mb < hi ∧ kn + 2 ≤ kc ∧ mn + 2 ≤ mc ∧
  w.cell? ⟨kb, kn * 9 + 2, none⟩ = some spareTxt ∧ w.cell? ⟨kb, (kn + 1) * 9 + 2, none⟩ = some spareTxt ∧ w.cell? ⟨mb, mn, none⟩ = some spareTxt ∧ w.cell? ⟨mb, mn + 1, none⟩ = some spareTxt
def FAt (sp : Bool) (w : World) (lo hi : Nat) : Nat → Flt → Value → Prop
 | 0, _, _ => False
 | n + 1, .mk k ks ds vl st ms fn rl dn, v => ∃ (KA : Option Addr) (kc : Nat) (MA : Option Addr) (mc : Nat),
   v = flt k KA ks.length kc ds vl st MA ms.length mc fn rl dn ∧ Fits k ks.length kc ds vl st ms mc fn rl ∧
   (0 < ms.length → ∃ ad, MA = some ad ∧ lo ≤ ad.block ∧ ad.block < hi ∧ ∀ j u, ms[j]? = some u → w.cell? (ad.add j) = some (txt u)) ∧
   (0 < ks.length → ∃ ad, KA = some ad ∧ lo ≤ ad.block ∧ ad.block < hi ∧ ∀ i f, ks[i]? = some f → ∃ v, FAt sp w lo hi n f v ∧ ∀ j u, v.cells[j]? = some u → w.cell? (ad.add (i * 9 + j)) = some u) ∧
   (sp = true → Spare w lo hi KA ks.length kc MA ms.length mc)
section
variable {sp : Bool} {w w' : World} {lo lo' hi hi' : Nat}

theorem FAt.keep (hk : ∀ p : Addr, lo ≤ p.block → p.block < hi → w'.cell? p = w.cell? p) : ∀ {n : Nat} {f : Flt} {v : Value}, FAt sp w lo hi n f v → FAt sp w' lo hi n f v
 | 0, _, _, h => h
 | n + 1, .mk k ks ds vl st ms fn rl dn, v, h => by
  obtain ⟨KA, kc, MA, mc, hv, hf, hm, hks, hs⟩ := h
  refine ⟨KA, kc, MA, mc, hv, hf, fun h0 => ?_, fun h0 => ?_, fun h0 => ?_⟩
  ·obtain ⟨ad, e, h1, h2, h3⟩ := hm h0
   exact ⟨ad, e, h1, h2, fun j u hu => (hk _ (by rw [RankLaw.add_block]; exact h1) (by rw [RankLaw.add_block]; exact h2)).trans (h3 j u hu)⟩
  ·obtain ⟨ad, e, h1, h2, h3⟩ := hks h0
   refine ⟨ad, e, h1, h2, fun i f hif => ?_⟩
   obtain ⟨v, hv, hc⟩ := h3 i f hif
   exact ⟨v, FAt.keep hk hv, fun j u hu => (hk _ (by rw [RankLaw.add_block]; exact h1) (by rw [RankLaw.add_block]; exact h2)).trans (hc j u hu)⟩
  ·obtain ⟨kb, mb, e1, e2, h1, h2, h3, h4, h5, h6, c1, c2, c3, c4⟩ := hs h0
   exact ⟨kb, mb, e1, e2, h1, h2, h3, h4, h5, h6, (hk _ h1 h2).trans c1, (hk _ h1 h2).trans c2, (hk _ h3 h4).trans c3, (hk _ h3 h4).trans c4⟩
theorem FAt.wide (h1 : lo' ≤ lo) (h2 : hi ≤ hi') : ∀ {n : Nat} {f : Flt} {v : Value}, FAt sp w lo hi n f v → FAt sp w lo' hi' n f v
 | 0, _, _, h => h
 | n + 1, .mk k ks ds vl st ms fn rl dn, v, h => by
  obtain ⟨KA, kc, MA, mc, hv, hf, hm, hks, hs⟩ := h
  refine ⟨KA, kc, MA, mc, hv, hf, fun h0 => ?_, fun h0 => ?_, fun h0 => ?_⟩
  ·obtain ⟨ad, e, g1, g2, h3⟩ := hm h0
   exact ⟨ad, e, by omega, by omega, h3⟩
  ·obtain ⟨ad, e, g1, g2, h3⟩ := hks h0
   refine ⟨ad, e, by omega, by omega, fun i f hif => ?_⟩
   obtain ⟨v, hv, hc⟩ := h3 i f hif
   exact ⟨v, FAt.wide h1 h2 hv, hc⟩
  ·obtain ⟨kb, mb, e1, e2, g1, g2, g3, g4, g5⟩ := hs h0
   exact ⟨kb, mb, e1, e2, by omega, by omega, by omega, by omega, g5⟩
theorem FAt.up : ∀ {n m : Nat} {f : Flt} {v : Value}, n ≤ m → FAt sp w lo hi n f v → FAt sp w lo hi m f v
 | 0, _, _, _, _, h => h.elim
 | n + 1, 0, _, _, hm, _ => by omega
 | n + 1, m + 1, .mk k ks ds vl st ms fn rl dn, v, hnm, h => by
  obtain ⟨KA, kc, MA, mc, hv, hf, hm, hks, hs⟩ := h
  refine ⟨KA, kc, MA, mc, hv, hf, hm, fun h0 => ?_, hs⟩
  obtain ⟨ad, e, g1, g2, h3⟩ := hks h0
  refine ⟨ad, e, g1, g2, fun i f hif => ?_⟩
  obtain ⟨v, hv, hc⟩ := h3 i f hif
  exact ⟨v, FAt.up (by omega) hv, hc⟩
theorem FAt.bare : ∀ {n : Nat} {f : Flt} {v : Value}, FAt sp w lo hi n f v → FAt false w lo hi n f v
 | 0, _, _, h => h.elim
 | n + 1, .mk k ks ds vl st ms fn rl dn, v, h => by
  obtain ⟨KA, kc, MA, mc, hv, hf, hm, hks, hs⟩ := h
  refine ⟨KA, kc, MA, mc, hv, hf, hm, fun h0 => ?_, fun h0 => by cases h0⟩
  obtain ⟨ad, e, g1, g2, h3⟩ := hks h0
  refine ⟨ad, e, g1, g2, fun i f hif => ?_⟩
  obtain ⟨v, hv, hc⟩ := h3 i f hif
  exact ⟨v, FAt.bare hv, hc⟩
theorem FAt.below {B n : Nat} {f : Flt} {v : Value} (h : FAt sp w lo B n f v) (hb : Below B w w') : FAt sp w' lo B n f v := h.keep fun _ _ hp => hb.cell hp
end

section
variable {H : Type} {enc : TypeId × Value → H} {P : Program} {W : World}

theorem strs_in {t e : TypeId} {fuel : Nat} {cs : List Value} {d : DataW H} {p : List MemPlace} (ht : P.underlying t = some (.slice e)) (he : P.underlying e = some .string) (hc : P.cellsOf e = 1) (hb : P.bytesOf e = 16)
  (h : DataW.trod enc P W 0 (fun _ => true) true fuel t cs = some (d, p)) (hw : ∀ x ∈ d.weights P t, x ≤ reachBytes) :
  ∃ (A : Option Addr) (ms : List (List UInt8)) (c : Nat), cs = [.slice A ms.length c] ∧ ms.length ≤ c ∧ c ≤ maxLen ∧ ms.length * 16 ≤ 140737488351232 ∧ (∀ m ∈ ms, m.length ≤ 140737488351232) ∧
   (0 < ms.length → ∃ ad, A = some ad ∧ 0 ≤ ad.block ∧ ad.block < W.heap.size ∧ ∀ j u, ms[j]? = some u → W.cell? (ad.add j) = some (txt u)) := by
 rcases open_strs ht he hc h with ⟨rfl, _⟩ | ⟨a, len, cap, m, Sx, rfl, _, hl, hm, hmm, hx, hcell⟩
 ·exact ⟨none, [], 0, rfl, by simp, by simp [maxLen], by simp, by simp, fun h0 => by simp at h0⟩
 ·simp only [if_true] at hmm
  subst hmm
  simp only [Prod.mk.injEq] at hx
  obtain ⟨rfl, rfl⟩ := hx
  have h1 := hw (m * 16) (by
   simp only [DataW.weights, ht, hb, List.length_map, List.length_range]
   refine List.mem_cons.2 (.inl ?_)
   congr 1
   omega)
  have h1' : m * 16 ≤ 140737488351232 := by unfold reachBytes at h1; omega
  have all_mem : ∀ (l : List Nat) (g : Nat → List UInt8) (i : Nat), i ∈ l → (g i).length ∈ DataW.weightsAll P e (l.map fun i => (DataW.lit (.string (g i)) : DataW H)) := by
   intro l g i hi
   induction l with
   | nil => cases hi
   | cons b l ih =>
    simp only [List.map_cons, DataW.weightsAll, DataW.weights, List.mem_append, List.mem_singleton]
    rcases List.mem_cons.1 hi with rfl | hi
    ·exact .inl rfl
    ·exact .inr (ih hi)
  refine ⟨some a, (List.range len).map fun i => (Sx i).data.toList, m, by simp, by simpa using hl, hm, by simp; omega, fun x hx => ?_, fun h0 => ?_⟩
  ·obtain ⟨i, hi, rfl⟩ := List.mem_map.1 hx
   have := hw (Sx i).data.toList.length (by
    simp only [DataW.weights, ht]
    exact List.mem_cons.2 (.inr (List.mem_append_left _ (all_mem (List.range len) (fun i => (Sx i).data.toList) i hi))))
   unfold reachBytes at this
   omega
  ·have hn : 0 < len := by simpa using h0
   refine ⟨a, rfl, Nat.zero_le _, ?_, fun j u hu => ?_⟩
   ·have := World.block_lt_of_cell? W _ (hcell 0 (by omega)).1
    rwa [RankLaw.add_block] at this
   ·have hj : j < len := by
     have := (List.getElem?_eq_some_iff.1 hu).1
     simpa using this
    rw [(hcell j (by omega)).1]
    rw [List.getElem?_map, List.getElem?_range hj] at hu
    simp only [Option.map_some, Option.some.injEq] at hu
    subst hu
    simp [txt]
theorem flt_in {tf ts : TypeId} {f0 f1 f2 f3 f4 f5 f6 f7 f8 : Field} (hF : P.underlying tf = some (.struct #[f0, f1, f2, f3, f4, f5, f6, f7, f8])) (hone : oneCellFields P #[f0, f1, f2, f3, f4, f5, f6, f7, f8] = true)
  (hC : P.cellsOf tf = 9) (hB : P.bytesOf tf = 144) (h0 : P.underlying f0.type = some (.int .i8)) (h1 : P.underlying f1.type = some (.slice tf)) (h2 : P.underlying f2.type = some .string) (h3 : P.underlying f3.type = some .string)
  (h4 : P.underlying f4.type = some .string) (h5 : P.underlying f5.type = some (.slice ts)) (h6 : P.underlying f6.type = some .string) (h7 : P.underlying f7.type = some .string) (h8 : P.underlying f8.type = some .bool)
  (hs : P.underlying ts = some .string) (hsc : P.cellsOf ts = 1) (hsb : P.bytesOf ts = 16) :
  ∀ (fuel : Nat) (cs : List Value) (d : DataW H) (p : List MemPlace), DataW.trod enc P W 0 (fun _ => true) true fuel tf cs = some (d, p) → (∀ x ∈ d.weights P tf, x ≤ reachBytes) →
   ∃ f, FAt false W 0 W.heap.size fuel f (.agg cs.toArray) := by
 intro fuel
 induction fuel using Nat.strongRecOn with
 | ind fuel ih =>
  intro cs d p h hw
  obtain ⟨xs, n, rfl, hx, hl, hlen, hf⟩ := DataW.trod_struct hF h
  rw [hC] at hl
  match xs, hlen, cs, hl with
  | [y0, y1, y2, y3, y4, y5, y6, y7, y8], _, [c0, c1, c2, c3, c4, c5, c6, c7, c8], _ =>
   simp only [Prod.mk.injEq] at hx
   obtain ⟨rfl, rfl⟩ := hx
   obtain ⟨o0, k0⟩ := hone_of hone 0 f0 rfl
   obtain ⟨o1, k1⟩ := hone_of hone 1 f1 rfl
   obtain ⟨o2, k2⟩ := hone_of hone 2 f2 rfl
   obtain ⟨o3, k3⟩ := hone_of hone 3 f3 rfl
   obtain ⟨o4, k4⟩ := hone_of hone 4 f4 rfl
   obtain ⟨o5, k5⟩ := hone_of hone 5 f5 rfl
   obtain ⟨o6, k6⟩ := hone_of hone 6 f6 rfl
   obtain ⟨o7, k7⟩ := hone_of hone 7 f7 rfl
   obtain ⟨o8, k8⟩ := hone_of hone 8 f8 rfl
   have g0 : DataW.trod enc P W 0 (fun _ => true) true n f0.type [c0] = some y0 := by simpa [o0, k0] using hf 0 f0 rfl
   have g1 : DataW.trod enc P W 0 (fun _ => true) true n f1.type [c1] = some y1 := by simpa [o1, k1] using hf 1 f1 rfl
   have g2 : DataW.trod enc P W 0 (fun _ => true) true n f2.type [c2] = some y2 := by simpa [o2, k2] using hf 2 f2 rfl
   have g3 : DataW.trod enc P W 0 (fun _ => true) true n f3.type [c3] = some y3 := by simpa [o3, k3] using hf 3 f3 rfl
   have g4 : DataW.trod enc P W 0 (fun _ => true) true n f4.type [c4] = some y4 := by simpa [o4, k4] using hf 4 f4 rfl
   have g5 : DataW.trod enc P W 0 (fun _ => true) true n f5.type [c5] = some y5 := by simpa [o5, k5] using hf 5 f5 rfl
   have g6 : DataW.trod enc P W 0 (fun _ => true) true n f6.type [c6] = some y6 := by simpa [o6, k6] using hf 6 f6 rfl
   have g7 : DataW.trod enc P W 0 (fun _ => true) true n f7.type [c7] = some y7 := by simpa [o7, k7] using hf 7 f7 rfl
   have g8 : DataW.trod enc P W 0 (fun _ => true) true n f8.type [c8] = some y8 := by simpa [o8, k8] using hf 8 f8 rfl
   have hwx : ∀ x, x ∈ y1.1.weights P f1.type ∨ x ∈ y2.1.weights P f2.type ∨ x ∈ y3.1.weights P f3.type ∨ x ∈ y4.1.weights P f4.type ∨ x ∈ y5.1.weights P f5.type ∨ x ∈ y6.1.weights P f6.type ∨ x ∈ y7.1.weights P f7.type → x ≤ reachBytes := by
    intro x hx
    refine hw x ?_
    simp only [DataW.weights, hF, List.map_cons, List.map_nil, DataW.weightsEach, List.mem_append]
    rcases hx with h | h | h | h | h | h | h
    ·exact .inr (.inl h)
    ·exact .inr (.inr (.inl h))
    ·exact .inr (.inr (.inr (.inl h)))
    ·exact .inr (.inr (.inr (.inr (.inl h))))
    ·exact .inr (.inr (.inr (.inr (.inr (.inl h)))))
    ·exact .inr (.inr (.inr (.inr (.inr (.inr (.inl h))))))
    ·exact .inr (.inr (.inr (.inr (.inr (.inr (.inr (.inl h)))))))
   obtain ⟨k, e0, _, wk⟩ := DataW.trod_int h0 g0
   simp [Lit.wf, IntKind.min, IntKind.max, IntKind.signed, IntKind.bits] at wk
   have str : ∀ {t : TypeId} {c : Value} {y : DataW H × List MemPlace}, P.underlying t = some .string → DataW.trod enc P W 0 (fun _ => true) true n t [c] = some y → (∀ x ∈ y.1.weights P t, x ≤ reachBytes) → ∃ l : List UInt8, c = .string ⟨l.toArray⟩ ∧ l.length ≤ 140737488351232 := by
    intro t c y ht hy hwy
    obtain ⟨s, e, rfl, _⟩ := DataW.trod_string ht hy
    have := hwy s.data.toList.length (by simp [DataW.weights])
    unfold reachBytes at this
    exact ⟨s.data.toList, by simpa using e, by omega⟩
   obtain ⟨ds, rfl, ds1⟩ := str h2 g2 fun x hx => hwx x (.inr (.inl hx))
   obtain ⟨vl, rfl, vl1⟩ := str h3 g3 fun x hx => hwx x (.inr (.inr (.inl hx)))
   obtain ⟨st, rfl, st1⟩ := str h4 g4 fun x hx => hwx x (.inr (.inr (.inr (.inl hx))))
   obtain ⟨fn, rfl, fn1⟩ := str h6 g6 fun x hx => hwx x (.inr (.inr (.inr (.inr (.inr (.inl hx))))))
   obtain ⟨rl, rfl, rl1⟩ := str h7 g7 fun x hx => hwx x (.inr (.inr (.inr (.inr (.inr (.inr hx))))))
   obtain ⟨dn, e8, _⟩ := DataW.trod_bool h8 g8
   obtain ⟨MA, ms, mc, e5, mc0, mc1, mn1, ms1, hms⟩ := strs_in h5 hs hsc hsb (d := y5.1) (p := y5.2) g5 fun x hx => hwx x (.inr (.inr (.inr (.inr (.inl hx)))))
   simp only [List.cons.injEq, and_true] at e0 e5 e8
   subst e0 e5 e8
   have kids : ∃ (KA : Option Addr) (ks : List Flt) (kc : Nat), c1 = .slice KA ks.length kc ∧ ks.length ≤ kc ∧ kc ≤ maxLen ∧ ks.length * 144 ≤ 140737488351232 ∧
     (0 < ks.length → ∃ ad, KA = some ad ∧ 0 ≤ ad.block ∧ ad.block < W.heap.size ∧ ∀ i f, ks[i]? = some f → ∃ v, FAt false W 0 W.heap.size n f v ∧ ∀ j u, v.cells[j]? = some u → W.cell? (ad.add (i * 9 + j)) = some u) := by
    rcases DataW.trod_slice h1 g1 with ⟨ec, _⟩ | ⟨a, len, cap, elems, rest, m, hnm, ec, hy, _, hl, hm, hel, hcell, hsp, _⟩
    ·simp only [List.cons.injEq, and_true] at ec
     exact ⟨none, [], 0, ec, by simp, by simp [maxLen], by simp, fun h0 => by simp at h0⟩
    ·simp only [List.cons.injEq, and_true] at ec
     subst ec
     obtain ⟨hrl, _⟩ := hsp rfl
     have hw1 := hwx (cap * 144) (.inl (by
      rw [hy]
      simp only [DataW.weights, h1, hB, List.length_map, hel, hrl]
      refine List.mem_cons.2 (.inl ?_)
      congr 1
      omega))
     have hw1' : cap * 144 ≤ 140737488351232 := by unfold reachBytes at hw1; omega
     have each : ∀ i, i < len → ∃ f : Flt, ∃ v, FAt false W 0 W.heap.size n f v ∧ (∀ j u, v.cells[j]? = some u → W.cell? (a.add (i * 9 + j)) = some u) ∧ a.block < W.heap.size := by
      intro i hi
      have key := hcell i hi
      rw [List.getElem?_eq_getElem (by omega), hC] at key
      obtain ⟨cs', q1, q2⟩ := Option.bind_eq_some_iff.1 key
      obtain ⟨_, hcl, hat⟩ := World.cells?_some q1
      obtain ⟨f, hfa⟩ := ih m (by omega) cs' _ _ q2 (fun x hx => hwx x (.inl (by
       rw [hy]
       simp only [DataW.weights, h1]
       refine List.mem_cons.2 (.inr (List.mem_append_left _ ?_))
       have sub : ∀ (l : List (DataW H × List MemPlace)) (y : DataW H × List MemPlace), y ∈ l → ∀ x ∈ y.1.weights P tf, x ∈ DataW.weightsAll P tf (l.map (·.1)) := by
        intro l y hyl x hx
        induction l with
        | nil => cases hyl
        | cons b l ihl =>
         simp only [List.map_cons, DataW.weightsAll, List.mem_append]
         rcases List.mem_cons.1 hyl with rfl | hyl
         ·exact .inl hx
         ·exact .inr (ihl hyl)
       exact sub elems _ (List.getElem_mem _) x hx)))
      refine ⟨f, _, hfa.up (by omega), fun j u hu => ?_, ?_⟩
      ·have hu' : cs'[j]? = some u := by simpa [Value.cells] using hu
       have hj : j < 9 := by have := (List.getElem?_eq_some_iff.1 hu').1; omega
       rw [← RankLaw.add_add, hat j hj, hu']
      ·have hu := hat 0 (by omega)
       rw [List.getElem?_eq_getElem (by omega)] at hu
       have := World.block_lt_of_cell? W _ hu
       rwa [RankLaw.add_block, RankLaw.add_block] at this
     haveI : Inhabited Flt := ⟨.mk 0 [] [] [] [] [] [] [] false⟩
     obtain ⟨F, hF'⟩ := choose_lt each
     refine ⟨some a, (List.range len).map F, cap, by simp, by simpa using hl, hm, by simp; omega, fun h0 => ?_⟩
     have hn : 0 < len := by simpa using h0
     obtain ⟨_, _, _, hblk⟩ := hF' 0 hn
     refine ⟨a, rfl, Nat.zero_le _, hblk, fun i f hif => ?_⟩
     have hi : i < len := by
      have := (List.getElem?_eq_some_iff.1 hif).1
      simpa using this
     rw [List.getElem?_map, List.getElem?_range hi] at hif
     simp only [Option.map_some, Option.some.injEq] at hif
     subst hif
     obtain ⟨v, q1, q2, _⟩ := hF' i hi
     exact ⟨v, q1, q2⟩
   obtain ⟨KA, ks, kc, rfl, kc0, kc1, kn1, hks⟩ := kids
   exact ⟨.mk k ks ds vl st ms fn rl dn, KA, kc, MA, mc, rfl, ⟨by omega, by omega, kc0, kc1, kn1, ds1, vl1, st1, mc0, mc1, mn1, ms1, fn1, rl1⟩, hms, hks, fun h0 => by cases h0⟩
end
end Go.FltLaw

namespace Go.FltLaw
open Go.RowKit Go.RankLaw

def KidsIn (sp : Bool) (w : World) (B n : Nat) (ks : List Flt) (rb : Option Nat) (xs : List Value) : Prop :=
 ∀ i f, ks[i]? = some f → ∃ v lo hi, FAt sp w lo hi n f v ∧ B ≤ lo ∧ hi ≤ w.heap.size ∧ (∀ b, rb = some b → b < lo ∨ hi ≤ b) ∧ ∀ j u, v.cells[j]? = some u → xs[i * 9 + j]? = some u
section
variable {sp : Bool} {w w2 w3 : World} {B n k g : Nat} {ks : List Flt} {rb : Option Nat} {xs news : List Value} {f : Flt} {v : Value}

theorem KidsIn.none (sp : Bool) (w : World) (B n : Nat) (ks : List Flt) (rb : Option Nat) (xs : List Value) : KidsIn sp w B n (ks.take 0) rb xs := by
 intro i f h
 simp at h
theorem KidsIn.grown (h : KidsIn sp w B n ks rb xs) (hg : w.grownBy w3 rb) : KidsIn sp w3 B n ks rb xs := by
 intro i f hi
 obtain ⟨v, lo, hi', h1, h2, h3, h4, h5⟩ := h i f hi
 refine ⟨v, lo, hi', h1.keep fun p hp1 hp2 => World.cell?_of_block (hg.block _ (by omega) fun e => ?_), h2, Nat.le_trans h3 hg.size, h4, h5⟩
 have := h4 _ e.symm
 omega
theorem KidsIn.step (h : KidsIn sp w B n (ks.take k) rb xs) (hx : xs.length = k * 9) (hk : ks[k]? = some f) (hb : Below w.heap.size w w2) (hf : FAt sp w2 w.heap.size w2.heap.size n f v) (hB : B ≤ w.heap.size)
  (hrb : ∀ b, rb = some b → b < w.heap.size) (hg : w2.grownBy w3 rb) (hat : rb = some g ∨ w2.heap.size ≤ g) (hnew : v.cells.toList = news) : KidsIn sp w3 B n (ks.take (k + 1)) (some g) (xs ++ news) := by
 intro i f' hi
 have hik : i < k + 1 := by
  have := (List.getElem?_eq_some_iff.1 hi).1
  simp at this; omega
 rw [List.getElem?_take, if_pos hik] at hi
 have hs := hb.size
 have hs3 := hg.size
 by_cases hlt : i < k
 ·obtain ⟨v', lo, hi', h1, h2, h3, h4, h5⟩ := h i f' (by rw [List.getElem?_take, if_pos hlt]; exact hi)
  refine ⟨v', lo, hi', h1.keep fun p hp1 hp2 => (World.cell?_of_block (hg.block _ (by omega) fun e => ?_)).trans (hb.cell (by omega)), h2, by omega, ?_, fun j u hu => ?_⟩
  ·have := h4 _ e.symm
   omega
  ·intro b hb'
   injection hb' with hb'
   subst hb'
   rcases hat with e | e
   ·exact h4 _ e
   ·exact .inr (by omega)
  ·have := h5 j u hu
   rw [List.getElem?_append_left (List.getElem?_eq_some_iff.1 this).1]
   exact this
 ·have e : i = k := by omega
  subst e
  rw [hk] at hi
  injection hi with hi
  subst hi
  refine ⟨v, w.heap.size, w2.heap.size, hf.keep fun p hp1 hp2 => World.cell?_of_block (hg.block _ (by omega) fun e => ?_), hB, hs3, ?_, fun j u hu => ?_⟩
  ·have := hrb _ e.symm
   omega
  ·intro b hb'
   injection hb' with hb'
   subst hb'
   rcases hat with e | e
   ·exact .inl (hrb _ e)
   ·exact .inr e
  ·rw [List.getElem?_append_right (by omega), ← hnew]
   simpa [hx] using hu
theorem KidsIn.keep (h : KidsIn sp w B n ks rb xs) (hs : w.heap.size ≤ w3.heap.size) (hk : ∀ p : Addr, B ≤ p.block → p.block < w.heap.size → (∀ b, rb = some b → p.block ≠ b) → w3.cell? p = w.cell? p) : KidsIn sp w3 B n ks rb xs := by
 intro i f hi
 obtain ⟨v, lo, hi', h1, h2, h3, h4, h5⟩ := h i f hi
 exact ⟨v, lo, hi', h1.keep fun p hp1 hp2 => hk p (by omega) (by omega) fun b e => by have := h4 _ e; omega, h2, by omega, h4, h5⟩
end

theorem nine_at {w : World} {ad : Addr} {m : Nat} {b0 b1 b2 b3 b4 b5 b6 b7 b8 : Value} (h : ∀ j u, (Value.agg #[b0, b1, b2, b3, b4, b5, b6, b7, b8]).cells[j]? = some u → w.cell? (ad.add (m + j)) = some u) :
  w.cell? (ad.add m) = some b0 ∧ w.cell? ⟨(ad.add m).block, (ad.add m).off + 1, none⟩ = some b1 ∧ w.cell? ⟨(ad.add m).block, (ad.add m).off + 2, none⟩ = some b2 ∧ w.cell? ⟨(ad.add m).block, (ad.add m).off + 3, none⟩ = some b3 ∧
   w.cell? ⟨(ad.add m).block, (ad.add m).off + 4, none⟩ = some b4 ∧ w.cell? ⟨(ad.add m).block, (ad.add m).off + 5, none⟩ = some b5 ∧ w.cell? ⟨(ad.add m).block, (ad.add m).off + 6, none⟩ = some b6 ∧
   w.cell? ⟨(ad.add m).block, (ad.add m).off + 7, none⟩ = some b7 ∧ w.cell? ⟨(ad.add m).block, (ad.add m).off + 8, none⟩ = some b8 := by
 have e : ∀ i, 0 < i → (⟨(ad.add m).block, (ad.add m).off + i, none⟩ : Addr) = ad.add (m + i) := fun i hi => by
  have e1 : ((ad.add m).add i) = ⟨(ad.add m).block, (ad.add m).off + i, none⟩ := by
   generalize ad.add m = q
   unfold Addr.add
   rw [if_neg (by omega)]
  rw [← add_add, e1]
 rw [e 1 (by omega), e 2 (by omega), e 3 (by omega), e 4 (by omega), e 5 (by omega), e 6 (by omega), e 7 (by omega), e 8 (by omega)]
 exact ⟨h 0 b0 rfl, h 1 b1 rfl, h 2 b2 rfl, h 3 b3 rfl, h 4 b4 rfl, h 5 b5 rfl, h 6 b6 rfl, h 7 b7 rfl, h 8 b8 rfl⟩
theorem FAt.form {sp : Bool} {w : World} {lo hi : Nat} : ∀ {n : Nat} {f : Flt} {v : Value}, FAt sp w lo hi n f v → ∃ b0 b1 b2 b3 b4 b5 b6 b7 b8, v = .agg #[b0, b1, b2, b3, b4, b5, b6, b7, b8]
 | 0, _, _, h => h.elim
 | _ + 1, .mk .., _, ⟨_, _, _, _, h, _⟩ => ⟨_, _, _, _, _, _, _, _, _, h⟩
theorem FAt.formF {sp : Bool} {w : World} {lo hi : Nat} : ∀ {n : Nat} {f : Flt} {v : Value}, FAt sp w lo hi n f v → ∃ (k : Int) (KA : Option Addr) (kn kc : Nat) (ds vl st : List UInt8) (MA : Option Addr) (mn mc : Nat) (fn rl : List UInt8) (dn : Bool),
  v = .agg #[.int .i8 k, .slice KA kn kc, .string ⟨ds.toArray⟩, .string ⟨vl.toArray⟩, .string ⟨st.toArray⟩, .slice MA mn mc, .string ⟨fn.toArray⟩, .string ⟨rl.toArray⟩, .bool dn]
 | 0, _, _, h => h.elim
 | _ + 1, .mk .., _, ⟨_, _, _, _, h, _⟩ => ⟨_, _, _, _, _, _, _, _, _, _, _, _, _, h⟩
theorem nine_one (k : Int) (KA : Option Addr) (kn kc : Nat) (ds vl st : List UInt8) (MA : Option Addr) (mn mc : Nat) (fn rl : List UInt8) (dn : Bool) :
  ∀ u ∈ [Value.int .i8 k, .slice KA kn kc, .string ⟨ds.toArray⟩, .string ⟨vl.toArray⟩, .string ⟨st.toArray⟩, .slice MA mn mc, .string ⟨fn.toArray⟩, .string ⟨rl.toArray⟩, .bool dn], u.oneCell' = true := by simp [Value.oneCell']
theorem news_new (w : World) (cs : Array Value) (t : TypeId) {B : Nat} (hB : B = w.heap.size) : ∀ j u, cs.toList[j]? = some u → (w.alloc (.cells cs t)).cell? ((⟨B, 0, none⟩ : Addr).add j) = some u := by
 subst hB
 intro j u hu
 have e : (⟨w.heap.size, 0, none⟩ : Addr).add j = ⟨w.heap.size, j, none⟩ := by unfold Addr.add; split <;> simp_all
 rw [e]
 simpa using hu
theorem rd_txts {w : World} {B : Nat} {MA : Option Addr} {ms : List (List UInt8)} (h : 0 < ms.length → ∃ ad, MA = some ad ∧ 0 ≤ ad.block ∧ ad.block < B ∧ ∀ j u, ms[j]? = some u → w.cell? (ad.add j) = some (txt u)) : Rd w B MA ms.length (ms.map txt) := by
 refine ⟨by simp, fun h0 => ?_⟩
 obtain ⟨ad, h1, _, h3, h4⟩ := h h0
 refine ⟨ad, h1, h3, fun j u hu => ?_⟩
 rw [List.getElem?_map] at hu
 obtain ⟨m, hm, rfl⟩ := Option.map_eq_some_iff.1 hu
 exact h4 j m hm
theorem txts_one (ms : List (List UInt8)) : ∀ u ∈ ms.map txt, u.oneCell' = true := by
 intro u hu
 obtain ⟨m, _, rfl⟩ := List.mem_map.1 hu
 rfl
theorem FAt.drew {sp : Bool} {w : World} {lo hi n : Nat} {f : Flt} {v : Value} (h : FAt sp w lo hi n f v) : FAt sp w.drew lo hi n f v := FAt.keep (w := w) (w' := w.drew) (fun _ _ _ => rfl) h
theorem own_later {w w2 : World} {base : Nat} {e : TypeId} {size n : Nat} {v : Value} {xs : List Value} (h : w.ownsRow base e size v n xs) (hb : Below w.heap.size w w2) : w2.ownsRow base e size v n xs :=
 h.kept (row := none) ⟨hb.os, hb.tape, hb.output, hb.size, fun k hk _ => hb.block k hk⟩ (by cases v.ownBlock <;> simp)
theorem row_cell {w : World} {B : Nat} {e : TypeId} {size g m c : Nat} {xs : List Value} (h : w.ownsRow B e size (.slice (some ⟨g, 0, none⟩) m c) m xs) {j : Nat} {u : Value} (hu : xs[j]? = some u) : w.cell? ⟨g, j, none⟩ = some u := by
 rw [h.cellAt j (by have := (List.getElem?_eq_some_iff.1 hu).1; rw [h.1] at this; exact this), hu]
theorem row_form {w : World} {B : Nat} {e : TypeId} {size g m c : Nat} {xs : List Value} (h : w.ownsRow B e size (.slice (some ⟨g, 0, none⟩) m c) m xs) : B ≤ g ∧ g < w.heap.size ∧ m ≤ c ∧ c ≤ maxLen := by
 obtain ⟨_, h | ⟨g', cap, cur, hv, hb, hg, hc, hm, _⟩⟩ := h
 ·exact absurd h.1 (by simp)
 ·simp only [Value.slice.injEq, Option.some.injEq, Addr.mk.injEq] at hv
  obtain ⟨⟨rfl, _⟩, _, rfl⟩ := hv
  exact ⟨hb, (Array.getElem?_eq_some_iff.1 hg).1, hc, hm⟩
theorem own_blocks {w w' : World} {base : Nat} {e : TypeId} {size n : Nat} {v : Value} {xs : List Value} (h : w.ownsRow base e size v n xs) (hk : ∀ b, base ≤ b → w'.heap[b]? = w.heap[b]?) : w'.ownsRow base e size v n xs := by
 obtain ⟨h1, h2⟩ := h
 refine ⟨h1, ?_⟩
 rcases h2 with h2 | ⟨g, cap, cur, hv, hg, hh, r⟩
 ·exact .inl h2
 ·exact .inr ⟨g, cap, cur, hv, hg, by rw [hk g hg]; exact hh, r⟩
theorem KidsIn.turn {sp : Bool} {w w3 : World} {B n g : Nat} {ks : List Flt} {rb : Option Nat} {xs : List Value} (h : KidsIn sp w B n ks rb xs) (hs : w.heap.size ≤ w3.heap.size)
  (hk : ∀ b, B ≤ b → b < w.heap.size → (∀ b', rb = some b' → b ≠ b') → w3.heap[b]? = w.heap[b]?) (hat : rb = some g ∨ w.heap.size ≤ g) : KidsIn sp w3 B n ks (some g) xs := by
 intro i f hi
 obtain ⟨v, lo, hi', h1, h2, h3, h4, h5⟩ := h i f hi
 refine ⟨v, lo, hi', h1.keep fun p hp1 hp2 => World.cell?_of_block (hk _ (by omega) (by omega) fun b e => by have := h4 _ e; omega), h2, by omega, ?_, h5⟩
 intro b hb
 injection hb with hb
 subst hb
 rcases hat with e | e
 ·exact h4 _ e
 ·exact .inr (by omega)
end Go.FltLaw

namespace Go.FltLaw
open Go.RowKit Go.RankLaw

def FAtS (S : Nat → Prop) (w : World) : Nat → Flt → Value → Prop
 | 0, _, _ => False
 | n + 1, .mk k ks ds vl st ms fn rl dn, v => ∃ (KA : Option Addr) (kc : Nat) (MA : Option Addr) (mc : Nat),
   v = flt k KA ks.length kc ds vl st MA ms.length mc fn rl dn ∧ Fits k ks.length kc ds vl st ms mc fn rl ∧
   (0 < ms.length → ∃ ad, MA = some ad ∧ S ad.block ∧ ∀ j u, ms[j]? = some u → w.cell? (ad.add j) = some (txt u)) ∧
   (0 < ks.length → ∃ ad, KA = some ad ∧ S ad.block ∧ ∀ i f, ks[i]? = some f → ∃ v, FAtS S w n f v ∧ ∀ j u, v.cells[j]? = some u → w.cell? (ad.add (i * 9 + j)) = some u)
section
variable {S T : Nat → Prop} {w w' : World}
def Itv (lo hi : Nat) : Nat → Prop := fun b => lo ≤ b ∧ b < hi
theorem FAtS.of {lo hi : Nat} : ∀ {n : Nat} {f : Flt} {v : Value} {sp : Bool}, FAt sp w lo hi n f v → FAtS (Itv lo hi) w n f v
 | 0, _, _, _, h => h
 | n + 1, .mk k ks ds vl st ms fn rl dn, v, sp, h => by
  obtain ⟨KA, kc, MA, mc, hv, hf, hm, hks, _⟩ := h
  refine ⟨KA, kc, MA, mc, hv, hf, fun h0 => ?_, fun h0 => ?_⟩
  ·obtain ⟨ad, e, h1, h2, h3⟩ := hm h0
   exact ⟨ad, e, ⟨h1, h2⟩, h3⟩
  ·obtain ⟨ad, e, h1, h2, h3⟩ := hks h0
   refine ⟨ad, e, ⟨h1, h2⟩, fun i f hif => ?_⟩
   obtain ⟨v, hv, hc⟩ := h3 i f hif
   exact ⟨v, FAtS.of hv, hc⟩
theorem FAtS.to {lo hi : Nat} (hS : ∀ b, S b → lo ≤ b ∧ b < hi) : ∀ {n : Nat} {f : Flt} {v : Value}, FAtS S w n f v → FAt false w lo hi n f v
 | 0, _, _, h => h
 | n + 1, .mk k ks ds vl st ms fn rl dn, v, h => by
  obtain ⟨KA, kc, MA, mc, hv, hf, hm, hks⟩ := h
  refine ⟨KA, kc, MA, mc, hv, hf, fun h0 => ?_, fun h0 => ?_, fun h => by cases h⟩
  ·obtain ⟨ad, e, h1, h3⟩ := hm h0
   exact ⟨ad, e, (hS _ h1).1, (hS _ h1).2, h3⟩
  ·obtain ⟨ad, e, h1, h3⟩ := hks h0
   refine ⟨ad, e, (hS _ h1).1, (hS _ h1).2, fun i f hif => ?_⟩
   obtain ⟨v, hv, hc⟩ := h3 i f hif
   exact ⟨v, FAtS.to hS hv, hc⟩
theorem FAtS.keep (hk : ∀ p : Addr, S p.block → w'.cell? p = w.cell? p) : ∀ {n : Nat} {f : Flt} {v : Value}, FAtS S w n f v → FAtS S w' n f v
 | 0, _, _, h => h
 | n + 1, .mk k ks ds vl st ms fn rl dn, v, h => by
  obtain ⟨KA, kc, MA, mc, hv, hf, hm, hks⟩ := h
  refine ⟨KA, kc, MA, mc, hv, hf, fun h0 => ?_, fun h0 => ?_⟩
  ·obtain ⟨ad, e, h1, h3⟩ := hm h0
   exact ⟨ad, e, h1, fun j u hu => (hk _ (by rw [RankLaw.add_block]; exact h1)).trans (h3 j u hu)⟩
  ·obtain ⟨ad, e, h1, h3⟩ := hks h0
   refine ⟨ad, e, h1, fun i f hif => ?_⟩
   obtain ⟨v, hv, hc⟩ := h3 i f hif
   exact ⟨v, FAtS.keep hk hv, fun j u hu => (hk _ (by rw [RankLaw.add_block]; exact h1)).trans (hc j u hu)⟩
theorem FAtS.mono (h : ∀ b, S b → T b) : ∀ {n : Nat} {f : Flt} {v : Value}, FAtS S w n f v → FAtS T w n f v
 | 0, _, _, h => h
 | n + 1, .mk k ks ds vl st ms fn rl dn, v, hF => by
  obtain ⟨KA, kc, MA, mc, hv, hf, hm, hks⟩ := hF
  refine ⟨KA, kc, MA, mc, hv, hf, fun h0 => ?_, fun h0 => ?_⟩
  ·obtain ⟨ad, e, h1, h3⟩ := hm h0
   exact ⟨ad, e, h _ h1, h3⟩
  ·obtain ⟨ad, e, h1, h3⟩ := hks h0
   refine ⟨ad, e, h _ h1, fun i f hif => ?_⟩
   obtain ⟨v, hv, hc⟩ := h3 i f hif
   exact ⟨v, FAtS.mono h hv, hc⟩
theorem FAtS.up : ∀ {n m : Nat} {f : Flt} {v : Value}, n ≤ m → FAtS S w n f v → FAtS S w m f v
 | 0, _, _, _, _, h => h.elim
 | n + 1, 0, _, _, hm, _ => by omega
 | n + 1, m + 1, .mk k ks ds vl st ms fn rl dn, v, hnm, h => by
  obtain ⟨KA, kc, MA, mc, hv, hf, hm, hks⟩ := h
  refine ⟨KA, kc, MA, mc, hv, hf, hm, fun h0 => ?_⟩
  obtain ⟨ad, e, g1, h3⟩ := hks h0
  refine ⟨ad, e, g1, fun i f hif => ?_⟩
  obtain ⟨v, hv, hc⟩ := h3 i f hif
  exact ⟨v, FAtS.up (by omega) hv, hc⟩
theorem FAtS.below {B n : Nat} {f : Flt} {v : Value} (h : FAtS S w n f v) (hS : ∀ b, S b → b < B) (hb : Below B w w') : FAtS S w' n f v := h.keep fun _ hp => hb.cell (hS _ hp)
theorem FAtS.drewN {n : Nat} {f : Flt} {v : Value} (q : Nat) (h : FAtS S w n f v) : FAtS S (w.drewN q) n f v := FAtS.keep (w := w) (w' := w.drewN q) (fun _ _ => rfl) h
theorem FAtS.formF : ∀ {n : Nat} {f : Flt} {v : Value}, FAtS S w n f v → ∃ (KA : Option Addr) (kc : Nat) (MA : Option Addr) (mc : Nat) (k : Int) (ks : List Flt) (ds vl st : List UInt8) (ms : List (List UInt8)) (fn rl : List UInt8) (dn : Bool),
  f = .mk k ks ds vl st ms fn rl dn ∧ v = .agg #[.int .i8 k, .slice KA ks.length kc, .string ⟨ds.toArray⟩, .string ⟨vl.toArray⟩, .string ⟨st.toArray⟩, .slice MA ms.length mc, .string ⟨fn.toArray⟩, .string ⟨rl.toArray⟩, .bool dn] ∧ Fits k ks.length kc ds vl st ms mc fn rl
 | 0, _, _, h => h.elim
 | _ + 1, .mk .., _, ⟨_, _, _, _, h, h2, _⟩ => ⟨_, _, _, _, _, _, _, _, _, _, _, _, _, rfl, h, h2⟩
def KidsS (S : Nat → Prop) (w : World) (n : Nat) (l : List Flt) (xs : List Value) : Prop :=
 ∀ i f, l[i]? = some f → ∃ v, FAtS S w n f v ∧ ∀ j u, v.cells[j]? = some u → xs[i * 9 + j]? = some u
theorem KidsS.nil (S : Nat → Prop) (w : World) (n : Nat) (xs : List Value) : KidsS S w n [] xs := fun i f h => by simp at h
theorem KidsS.keep {n : Nat} {l : List Flt} {xs : List Value} (hk : ∀ p : Addr, S p.block → w'.cell? p = w.cell? p) (h : KidsS S w n l xs) : KidsS S w' n l xs := fun i f hi => by
 obtain ⟨v, h1, h2⟩ := h i f hi
 exact ⟨v, h1.keep hk, h2⟩
theorem KidsS.mono {n : Nat} {l : List Flt} {xs : List Value} (hk : ∀ b, S b → T b) (h : KidsS S w n l xs) : KidsS T w n l xs := fun i f hi => by
 obtain ⟨v, h1, h2⟩ := h i f hi
 exact ⟨v, h1.mono hk, h2⟩
theorem KidsS.up {n m : Nat} {l : List Flt} {xs : List Value} (hm : n ≤ m) (h : KidsS S w n l xs) : KidsS S w m l xs := fun i f hi => by
 obtain ⟨v, h1, h2⟩ := h i f hi
 exact ⟨v, h1.up hm, h2⟩
theorem KidsS.app {n : Nat} {l m : List Flt} {xs ys : List Value} (hx : xs.length = l.length * 9) (h : KidsS S w n l xs) (h' : KidsS S w n m ys) : KidsS S w n (l ++ m) (xs ++ ys) := fun i f hi => by
 by_cases hlt : i < l.length
 ·rw [List.getElem?_append_left hlt] at hi
  obtain ⟨v, h1, h2⟩ := h i f hi
  refine ⟨v, h1, fun j u hu => ?_⟩
  have := h2 j u hu
  rw [List.getElem?_append_left (List.getElem?_eq_some_iff.1 this).1]
  exact this
 ·rw [List.getElem?_append_right (by omega)] at hi
  obtain ⟨v, h1, h2⟩ := h' _ f hi
  refine ⟨v, h1, fun j u hu => ?_⟩
  have := h2 j u hu
  rw [List.getElem?_append_right (by omega), ← this]
  congr 1
  omega
theorem KidsS.one {n : Nat} {f : Flt} {v : Value} (h : FAtS S w n f v) : KidsS S w n [f] v.cells.toList := fun i g hi => by
 cases i with
 | zero =>
  simp at hi
  subst hi
  exact ⟨v, h, fun j u hu => by simpa using hu⟩
 | succ i => simp at hi
end
end Go.FltLaw

namespace Go.FltLaw

theorem then_eq {a b : Ordering} (h : a.then b = .eq) : a = .eq ∧ b = .eq := by cases a <;> simp_all [Ordering.then]
theorem lex_eq {α : Type} {c : α → α → Ordering} (hc : ∀ a b, c a b = .eq → a = b) : ∀ l m, lex c l m = .eq → l = m
 | [], [], _ => rfl
 | [], _ :: _, h => by simp [lex] at h
 | _ :: _, [], h => by simp [lex] at h
 | a :: l, b :: m, h => by
  unfold lex at h
  obtain ⟨h1, h2⟩ := then_eq h
  rw [hc a b h1, lex_eq hc l m h2]
theorem nat_eq {a b : Nat} (h : compare a b = .eq) : a = b := by simpa using h
theorem txt_eq {a b : List UInt8} (h : txtCmp a b = .eq) : a = b := lex_eq (c := byteCmp) (fun _ _ hxy => UInt8.toNat_inj.1 (nat_eq hxy)) a b h
theorem bool_eq {a b : Bool} (h : boolCmp a b = .eq) : a = b := by
 unfold boolCmp at h
 cases a <;> cases b <;> simp_all
mutual
theorem cmp_eq : ∀ f g : Flt, cmp f g = .eq → f = g
 | .mk k ks ds vl st ms fn rl dn, .mk k' ks' ds' vl' st' ms' fn' rl' dn', h => by
  unfold cmp at h
  obtain ⟨h1, h⟩ := then_eq h
  obtain ⟨h2, h⟩ := then_eq h
  obtain ⟨h3, h⟩ := then_eq h
  obtain ⟨h4, h⟩ := then_eq h
  obtain ⟨h5, h⟩ := then_eq h
  obtain ⟨h6, h⟩ := then_eq h
  obtain ⟨h7, h⟩ := then_eq h
  obtain ⟨h8, h⟩ := then_eq h
  have e1 : k = k' := by simpa using h1
  rw [e1, txt_eq h2, txt_eq h3, txt_eq h4, lex_eq (fun _ _ => txt_eq) _ _ h5, txt_eq h6, txt_eq h7, bool_eq h8, cmps_eq ks ks' h]
theorem cmps_eq : ∀ f g : List Flt, cmps f g = .eq → f = g
 | [], [], _ => rfl
 | [], _ :: _, h => by simp [cmps] at h
 | _ :: _, [], h => by simp [cmps] at h
 | f :: fs, g :: gs, h => by
  unfold cmps at h
  obtain ⟨h1, h2⟩ := then_eq h
  rw [cmp_eq f g h1, cmps_eq fs gs h2]
end
theorem cmp_lt_trans {f g h : Flt} (h1 : cmp f g = .lt) (h2 : cmp g h = .lt) : cmp f h = .lt := (cmp_tri f g h (by rw [h1]; simp) (by rw [h2]; simp)).2.1 (.inl h1)
theorem cmp_gt {f g : Flt} (h : cmp f g = .gt) : cmp g f = .lt := by rw [cmp_swap f g, h]; rfl
theorem cmp_irr (f : Flt) : cmp f f ≠ .lt := by rw [cmp_self]; simp
def Rising (l : List Flt) : Prop := l.Pairwise fun a b => cmp a b = .lt
theorem rising_eq : ∀ {l m : List Flt}, Rising l → Rising m → (∀ x, x ∈ l ↔ x ∈ m) → l = m
 | [], [], _, _, _ => rfl
 | [], b :: m, _, _, h => by have := (h b).2 (by simp); cases this
 | a :: l, [], _, _, h => by have := (h a).1 (by simp); cases this
 | a :: l, b :: m, hl, hm, h => by
  obtain ⟨l1, l2⟩ := List.pairwise_cons.1 hl
  obtain ⟨m1, m2⟩ := List.pairwise_cons.1 hm
  have hab : a = b := by
   rcases List.mem_cons.1 ((h a).1 (by simp)) with e | e
   ·exact e
   ·rcases List.mem_cons.1 ((h b).2 (by simp)) with e' | e'
    ·exact e'.symm
    ·exact absurd (cmp_lt_trans (l1 b e') (m1 a e)) (cmp_irr a)
  subst hab
  have : l = m := rising_eq l2 m2 fun x => by
   constructor
   ·intro hx
    rcases List.mem_cons.1 ((h x).1 (List.mem_cons_of_mem _ hx)) with e | e
    ·subst e; exact absurd (l1 x hx) (cmp_irr x)
    ·exact e
   ·intro hx
    rcases List.mem_cons.1 ((h x).2 (List.mem_cons_of_mem _ hx)) with e | e
    ·subst e; exact absurd (m1 x hx) (cmp_irr x)
    ·exact e
  rw [this]
def ins (x : Flt) : List Flt → List Flt
 | [] => [x]
 | y :: l => match cmp x y with
  | .lt => x :: y :: l
  | .eq => y :: l
  | .gt => y :: ins x l
def canon (l : List Flt) : List Flt := l.foldr ins []
theorem ins_mem (x : Flt) : ∀ (l : List Flt) (z : Flt), z ∈ ins x l ↔ z = x ∨ z ∈ l
 | [], z => by simp [ins]
 | y :: l, z => by
  unfold ins
  cases h : cmp x y
  ·simp
  ·have e := cmp_eq x y h
   subst e
   simp
  ·simp only [List.mem_cons, ins_mem x l z]
   constructor
   ·rintro (h | h | h) <;> simp [h]
   ·rintro (h | h | h) <;> simp [h]
theorem ins_rising (x : Flt) : ∀ {l : List Flt}, Rising l → Rising (ins x l)
 | [], _ => by simp [ins, Rising]
 | y :: l, h => by
  obtain ⟨h1, h2⟩ := List.pairwise_cons.1 h
  unfold ins
  cases hc : cmp x y
  ·refine List.pairwise_cons.2 ⟨fun z hz => ?_, h⟩
   rcases List.mem_cons.1 hz with e | e
   ·rw [e]; exact hc
   ·exact cmp_lt_trans hc (h1 z e)
  ·exact h
  ·refine List.pairwise_cons.2 ⟨fun z hz => ?_, ins_rising x h2⟩
   rcases (ins_mem x l z).1 hz with e | e
   ·rw [e]; exact cmp_gt hc
   ·exact h1 z e
theorem canon_mem (l : List Flt) (z : Flt) : z ∈ canon l ↔ z ∈ l := by
 induction l with
 | nil => simp [canon]
 | cons x l ih =>
  show z ∈ ins x (canon l) ↔ _
  rw [ins_mem, ih, List.mem_cons]
theorem canon_rising (l : List Flt) : Rising (canon l) := by
 induction l with
 | nil => simp [canon, Rising]
 | cons x l ih => exact ins_rising x ih
theorem canon_of {l m : List Flt} (h : Rising m) (hm : ∀ x, x ∈ m ↔ x ∈ l) : m = canon l := rising_eq h (canon_rising l) fun x => (hm x).trans (canon_mem l x).symm
def kindOf : Flt → Int
 | .mk k .. => k
def kidsOf : Flt → List Flt
 | .mk _ ks .. => ks
def notF (f : Flt) : Flt := .mk 2 [f] [] [] [] [] [] [] false
def juncF (k : Int) (ks : List Flt) : Flt := .mk k ks [] [] [] [] [] [] false
def flat (kind : Int) (l : List Flt) : List Flt := l.flatMap fun x => if kindOf x = kind then kidsOf x else [x]
def oneF (kind : Int) (l : List Flt) : Flt :=
 match canon l with
 | [x] => x
 | m => juncF kind m
mutual
def form : Flt → Bool → Flt
 | .mk k ks ds vl st ms fn rl dn, t =>
  if 2 < k then (if t then notF (.mk k ks ds vl st ms fn rl dn) else .mk k ks ds vl st ms fn rl dn)
  else if k = 2 then headForm ks t
  else oneF (if t then 1 - k else k) (flat (if t then 1 - k else k) (forms ks t))
def headForm : List Flt → Bool → Flt
 | [], _ => juncF 2 []
 | f :: _, t => form f (!t)
def forms : List Flt → Bool → List Flt
 | [], _ => []
 | f :: fs, t => form f t :: forms fs t
end

inductive Node where
 | lit (f : Flt) (n : Bool)
 | junc (k : Int) (ks : List Node)
mutual
def turnN : Node → Node
 | .lit f n => .lit f (!n)
 | .junc k ks => .junc (1 - k) (turnNs ks)
def turnNs : List Node → List Node
 | [] => []
 | x :: xs => turnN x :: turnNs xs
end
mutual
def grown : Flt → Node
 | .mk k ks ds vl st ms fn rl dn =>
  if 2 < k then .lit (.mk k ks ds vl st ms fn rl dn) false
  else if k = 2 then headGrown ks
  else .junc k (growns ks)
def headGrown : List Flt → Node
 | [] => .junc 2 []
 | f :: _ => turnN (grown f)
def growns : List Flt → List Node
 | [] => []
 | f :: fs => grown f :: growns fs
end
mutual
def laid : Node → Flt
 | .lit f n => if n then notF f else f
 | .junc k ks => oneF k (flat k (laids ks))
def laids : List Node → List Flt
 | [] => []
 | x :: xs => laid x :: laids xs
end
mutual
theorem turn_turn : ∀ x : Node, turnN (turnN x) = x
 | .lit f n => by simp [turnN]
 | .junc k ks => by
  simp only [turnN, turns_turns ks]
  congr 1
  omega
theorem turns_turns : ∀ xs : List Node, turnNs (turnNs xs) = xs
 | [] => rfl
 | x :: xs => by
  simp only [turnNs, turn_turn x, turns_turns xs]
end
def WellN (k : Int) (ks : List Flt) : Prop := k = 2 → ks ≠ []
mutual
def Well : Flt → Prop
 | .mk k ks _ _ _ _ _ _ _ => WellN k ks ∧ Wells ks
def Wells : List Flt → Prop
 | [] => True
 | f :: fs => Well f ∧ Wells fs
end
mutual
theorem laid_form : ∀ (f : Flt), Well f → laid (grown f) = form f false ∧ laid (turnN (grown f)) = form f true
 | .mk k ks ds vl st ms fn rl dn, h => by
  obtain ⟨h1, h2⟩ := h
  unfold grown form
  by_cases hk : 2 < k
  ·simp [hk, laid, turnN]
  ·by_cases h0 : k = 2
   ·simp only [if_neg hk, if_pos h0]
    cases ks with
    | nil => exact absurd rfl (h1 h0)
    | cons g gs =>
     obtain ⟨g1, g2⟩ := laid_form g h2.1
     simp only [headGrown, headForm, turn_turn, Bool.not_false, Bool.not_true]
     exact ⟨g2, g1⟩
   ·obtain ⟨g1, g2⟩ := laids_forms ks h2
    simp [hk, h0, turnN, laid, g1, g2]
theorem laids_forms : ∀ (fs : List Flt), Wells fs → laids (growns fs) = forms fs false ∧ laids (turnNs (growns fs)) = forms fs true
 | [], _ => by simp [growns, laids, forms, turnNs]
 | f :: fs, h => by
  obtain ⟨g1, g2⟩ := laid_form f h.1
  obtain ⟨g3, g4⟩ := laids_forms fs h.2
  simp only [growns, laids, forms, turnNs, g1, g2, g3, g4]
  exact ⟨trivial, trivial⟩
end
mutual
theorem well_of : ∀ (f : Flt) (a : Nat), Sub a f → Well f
 | .mk k ks ds vl st ms fn rl dn, a, h => by
  obtain ⟨_, _, _, hr, hk⟩ := h.kids
  refine ⟨fun h2 => ?_, wells_of ks (a + 1) hk⟩
  subst h2
  have := right_not hr
  intro e
  subst e
  simp at this
theorem wells_of : ∀ (fs : List Flt) (a : Nat), (∀ f ∈ fs, Sub a f) → Wells fs
 | [], _, _ => trivial
 | f :: fs, a, h => ⟨well_of f a (h f (by simp)), wells_of fs a fun g hg => h g (by simp [hg])⟩
end
theorem normal_same {f : Flt} (h : may f) : laid (grown f) = form f false := (laid_form f (well_of f 0 (may_sub h))).1
end Go.FltLaw

namespace Go.FltLaw

mutual
def size : Flt → Nat
 | .mk k ks _ _ _ _ _ _ _ => sizes ks + (if k = 2 then 0 else 1)
def sizes : List Flt → Nat
 | [] => 0
 | f :: fs => size f + sizes fs
end
mutual
def deep : Flt → Nat
 | .mk _ ks _ _ _ _ _ _ _ => deeps ks + 1
def deeps : List Flt → Nat
 | [] => 0
 | f :: fs => max (deep f) (deeps fs)
end
mutual
def Fine : Flt → Prop
 | .mk k ks ds vl st ms fn rl dn => long ds vl st ms fn rl = false ∧ right k ks.length ds vl st ms fn rl dn = true ∧ Fines ks
def Fines : List Flt → Prop
 | [] => True
 | f :: fs => Fine f ∧ Fines fs
end
mutual
theorem walk_char : ∀ (f : Flt) (a n d : Nat), n ≤ 65536 → ((walk f a n d).1 = 0 ↔ Fine f ∧ a + deep f ≤ 64 ∧ n + size f ≤ 65536) ∧ ((walk f a n d).1 = 0 → walk f a n d = (0, n + size f, max d (a + deep f)))
 | .mk k ks ds vl st ms fn rl dn, a, n, d, hn => by
  have key : ∀ (n1 : Nat), n1 = (if k = 2 then n else n + 1) → n + size (.mk k ks ds vl st ms fn rl dn) = n1 + sizes ks := by
   intro n1 h1
   unfold size
   rw [h1]
   split <;> omega
  have k1 := key _ rfl
  constructor
  ·constructor
   ·intro h
    obtain ⟨h1, h2, h3, h4, h5, _⟩ := walk_ok h
    obtain ⟨c1, _⟩ := walks_char ks (a + 1) _ (max d (a + 1)) h2 (by omega)
    obtain ⟨g1, g2, g3⟩ := c1.1 h5
    refine ⟨?_, ?_, by rw [k1]; exact g3⟩
    ·unfold Fine; exact ⟨h3, h4, g1⟩
    ·unfold deep; omega
   ·rintro ⟨h1, h2, h3⟩
    unfold Fine at h1
    unfold deep at h2
    rw [k1] at h3
    obtain ⟨g1, g2, g3⟩ := h1
    have hle : (if k = 2 then n else n + 1) ≤ 65536 := by omega
    rw [walk_eq, if_neg (by omega), if_neg (by rw [g1]; simp; exact hle), if_pos g2]
    exact (walks_char ks (a + 1) _ (max d (a + 1)) hle (by omega)).1.2 ⟨g3, by omega, h3⟩
  ·intro h
   obtain ⟨h1, h2, h3, h4, h5, h6⟩ := walk_ok h
   rw [h6, (walks_char ks (a + 1) _ (max d (a + 1)) h2 (by omega)).2 h5, k1]
   unfold deep
   congr 2
   by_cases hk0 : ks = []
   ·rw [if_pos hk0]; subst hk0; simp [deeps]
   ·rw [if_neg hk0]; omega
theorem walks_char : ∀ (fs : List Flt) (a n d : Nat), n ≤ 65536 → a ≤ 64 → ((walk.walks fs a n d).1 = 0 ↔ Fines fs ∧ a + deeps fs ≤ 64 ∧ n + sizes fs ≤ 65536) ∧ ((walk.walks fs a n d).1 = 0 → walk.walks fs a n d = (0, n + sizes fs, if fs = [] then d else max d (a + deeps fs)))
 | [], a, n, d, hn, ha => by
  unfold walk.walks Fines deeps sizes
  simp
  omega
 | f :: fs, a, n, d, hn, ha => by
  obtain ⟨c1, c2⟩ := walk_char f a n d hn
  rw [walk.walks]
  unfold Fines deeps sizes
  by_cases h0 : (walk f a n d).1 = 0
  ·rw [if_pos h0]
   obtain ⟨g1, g2, g3⟩ := c1.1 h0
   have e := c2 h0
   rw [e]
   obtain ⟨d1, d2⟩ := walks_char fs a (n + size f) (max d (a + deep f)) g3 ha
   constructor
   ·rw [d1]
    constructor
    ·rintro ⟨q1, q2, q3⟩; exact ⟨⟨g1, q1⟩, by omega, by omega⟩
    ·rintro ⟨⟨_, q1⟩, q2, q3⟩; exact ⟨q1, by omega, by omega⟩
   ·intro h
    have h' : (walk.walks fs a (n + size f) (max d (a + deep f))).1 = 0 := h
    rw [d2 h', if_neg (List.cons_ne_nil f fs), Nat.add_assoc n]
    congr 2
    by_cases hk0 : fs = []
    ·rw [if_pos hk0]; subst hk0; simp [deeps]
    ·rw [if_neg hk0]; omega
  ·rw [if_neg h0]
   refine ⟨⟨fun h => absurd h h0, ?_⟩, fun h => absurd h h0⟩
   rintro ⟨⟨q0, q1⟩, q2, q3⟩
   exact absurd (c1.2 ⟨q0, by omega, by omega⟩) h0
end
theorem may_iff {f : Flt} : may f ↔ Fine f ∧ deep f ≤ 64 ∧ size f ≤ 65536 := by
 have h := (walk_char f 0 0 0 (by omega)).1
 simpa [may] using h
theorem check_ok {f : Flt} : (check f).1 = 0 ↔ may f := by
 unfold check may
 by_cases h : (walk f 0 0 0).1 = 0 <;> simp [h]
theorem sizes_mem : ∀ {l : List Flt} {x : Flt}, x ∈ l → size x ≤ sizes l
 | y :: l, x, h => by
  unfold sizes
  rcases List.mem_cons.1 h with rfl | h
  ·omega
  ·have := sizes_mem h; omega
theorem deeps_mem : ∀ {l : List Flt} {x : Flt}, x ∈ l → deep x ≤ deeps l
 | y :: l, x, h => by
  unfold deeps
  rcases List.mem_cons.1 h with rfl | h
  ·omega
  ·have := deeps_mem h; omega
theorem deeps_le {n : Nat} : ∀ {l : List Flt}, (∀ x ∈ l, deep x ≤ n) → deeps l ≤ n
 | [], _ => by simp [deeps]
 | y :: l, h => by
  unfold deeps
  have := h y (by simp)
  have := deeps_le (l := l) fun x hx => h x (by simp [hx])
  omega
theorem fines_iff : ∀ {l : List Flt}, Fines l ↔ ∀ x ∈ l, Fine x
 | [] => by simp [Fines]
 | y :: l => by simp [Fines, fines_iff (l := l)]
theorem sizes_append : ∀ (l m : List Flt), sizes (l ++ m) = sizes l + sizes m
 | [], m => by simp [sizes]
 | x :: l, m => by simp only [List.cons_append, sizes, sizes_append l m]; omega
mutual
theorem size_pos : ∀ {f : Flt}, Fine f → 1 ≤ size f
 | .mk k ks ds vl st ms fn rl dn, h => by
  unfold Fine at h
  obtain ⟨_, h2, h3⟩ := h
  unfold size
  by_cases hk : k = 2
  ·subst hk
   have := right_not h2
   have := sizes_pos h3
   simp; omega
  ·rw [if_neg hk]; omega
theorem sizes_pos : ∀ {l : List Flt}, Fines l → l.length ≤ sizes l
 | [], _ => by simp [sizes]
 | x :: l, h => by
  unfold Fines at h
  have := size_pos h.1
  have := sizes_pos h.2
  simp only [List.length_cons, sizes]; omega
end
theorem sizes_ins (x : Flt) : ∀ l : List Flt, sizes (ins x l) ≤ size x + sizes l
 | [] => by simp [ins, sizes]
 | y :: l => by
  unfold ins
  split
  ·simp [sizes]
  ·simp [sizes]
  ·simp only [sizes]; have := sizes_ins x l; omega
theorem sizes_canon : ∀ l : List Flt, sizes (canon l) ≤ sizes l
 | [] => by simp [canon, sizes]
 | x :: l => by
  show sizes (ins x (canon l)) ≤ _
  have := sizes_ins x (canon l)
  have := sizes_canon l
  simp only [sizes]; omega
def flat1 (k : Int) (x : Flt) : List Flt := if kindOf x = k then kidsOf x else [x]
theorem flat_cons (k : Int) (x : Flt) (l : List Flt) : flat k (x :: l) = flat1 k x ++ flat k l := rfl
theorem flat_mem {k : Int} {l : List Flt} {y : Flt} : y ∈ flat k l ↔ ∃ x ∈ l, y ∈ flat1 k x := by simp [flat, flat1]
theorem size_kids (x : Flt) : sizes (kidsOf x) ≤ size x := by cases x; simp [kidsOf, size]
theorem deep_kids (x : Flt) : deeps (kidsOf x) + 1 = deep x := by cases x; simp [kidsOf, deep]
theorem sizes_flat1 (k : Int) (x : Flt) : sizes (flat1 k x) ≤ size x := by
 unfold flat1
 split
 ·exact size_kids x
 ·simp [sizes]
theorem sizes_flat (k : Int) : ∀ l : List Flt, sizes (flat k l) ≤ sizes l
 | [] => by simp [flat]
 | x :: l => by
  rw [flat_cons, sizes_append]
  have := sizes_flat1 k x
  have := sizes_flat k l
  simp only [sizes]; omega
theorem fine_kids {x : Flt} (h : Fine x) : ∀ y ∈ kidsOf x, Fine y := by
 cases x with
 | mk k ks ds vl st ms fn rl dn => exact fines_iff.1 h.2.2
theorem fine_flat1 {k : Int} {x : Flt} (h : Fine x) : ∀ y ∈ flat1 k x, Fine y := by
 unfold flat1
 split
 ·exact fine_kids h
 ·intro y hy; simp at hy; subst hy; exact h
theorem deep_flat1 {k : Int} {x y : Flt} (h : y ∈ flat1 k x) : deep y ≤ deep x := by
 unfold flat1 at h
 split at h
 ·have := deeps_mem h; have := deep_kids x; omega
 ·simp at h; subst h; exact Nat.le_refl _
mutual
def sizeN : Node → Nat
 | .lit f _ => size f
 | .junc _ ks => sizeNs ks + 1
def sizeNs : List Node → Nat
 | [] => 0
 | x :: xs => sizeN x + sizeNs xs
end
mutual
def deepN : Node → Nat
 | .lit f b => deep f + (if b then 1 else 0)
 | .junc _ ks => deepNs ks + 1
def deepNs : List Node → Nat
 | [] => 0
 | x :: xs => max (deepN x) (deepNs xs)
end
mutual
def FineN : Node → Prop
 | .lit f _ => Fine f ∧ 2 < kindOf f
 | .junc k ks => (k = 0 ∨ k = 1) ∧ ks ≠ [] ∧ FineNs ks
def FineNs : List Node → Prop
 | [] => True
 | x :: xs => FineN x ∧ FineNs xs
end
mutual
theorem turn_size : ∀ x : Node, sizeN (turnN x) = sizeN x
 | .lit _ _ => rfl
 | .junc _ ks => by simp only [turnN, sizeN, turns_size ks]
theorem turns_size : ∀ xs : List Node, sizeNs (turnNs xs) = sizeNs xs
 | [] => rfl
 | x :: xs => by simp only [turnNs, sizeNs, turn_size x, turns_size xs]
end
mutual
theorem turn_deep : ∀ x : Node, deepN (turnN x) ≤ deepN x + 1
 | .lit f b => by simp only [turnN, deepN]; cases b <;> simp <;> omega
 | .junc _ ks => by simp only [turnN, deepN]; have := turns_deep ks; omega
theorem turns_deep : ∀ xs : List Node, deepNs (turnNs xs) ≤ deepNs xs + 1
 | [] => by simp [turnNs, deepNs]
 | x :: xs => by simp only [turnNs, deepNs]; have := turn_deep x; have := turns_deep xs; omega
end
theorem turns_ne {ks : List Node} (h : ks ≠ []) : turnNs ks ≠ [] := by cases ks with | nil => exact absurd rfl h | cons x xs => simp [turnNs]
mutual
theorem turn_fine : ∀ {x : Node}, FineN x → FineN (turnN x)
 | .lit _ _, h => h
 | .junc _ ks, h => by
  unfold FineN at h
  simp only [turnN, FineN]
  exact ⟨by omega, turns_ne h.2.1, turns_fine h.2.2⟩
theorem turns_fine : ∀ {xs : List Node}, FineNs xs → FineNs (turnNs xs)
 | [], _ => trivial
 | _ :: _, h => ⟨turn_fine h.1, turns_fine h.2⟩
end
theorem right_kind {k : Int} {kids : Nat} {ds vl st : List UInt8} {ms : List (List UInt8)} {fn rl : List UInt8} {dn : Bool} (h : right k kids ds vl st ms fn rl dn = true) (hk : ¬ 2 < k) : (k = 0 ∨ k = 1 ∨ k = 2) ∧ 0 < kids := by
 unfold right at h
 by_cases h0 : k = 0 ∨ k = 1 ∨ k = 2
 ·rw [if_pos h0] at h
  simp only [Bool.and_eq_true, decide_eq_true_eq] at h
  exact ⟨h0, h.1.1.1.1.1⟩
 ·rw [if_neg h0, if_neg (by omega), if_neg (by omega), if_neg (by omega), if_neg (by omega)] at h
  cases h
mutual
theorem grown_char : ∀ {f : Flt}, Fine f → FineN (grown f) ∧ sizeN (grown f) ≤ size f ∧ deepN (grown f) ≤ deep f
 | .mk k ks ds vl st ms fn rl dn, h => by
  have hF := h
  unfold Fine at h
  obtain ⟨_, h2, h3⟩ := h
  unfold grown
  by_cases hk : 2 < k
  ·simp only [if_pos hk]
   exact ⟨⟨hF, hk⟩, Nat.le_refl _, by simp [deepN]⟩
  ·rw [if_neg hk]
   obtain ⟨r1, r2⟩ := right_kind h2 hk
   by_cases h0 : k = 2
   ·rw [if_pos h0]
    subst h0
    cases ks with
    | nil => simp at r2
    | cons g gs =>
     obtain ⟨g1, g2, g3⟩ := grown_char h3.1
     simp only [headGrown]
     refine ⟨turn_fine g1, ?_, ?_⟩
     ·rw [turn_size]; simp only [size, sizes]; omega
     ·have := turn_deep (grown g); simp only [deep, deeps]; omega
   ·rw [if_neg h0]
    obtain ⟨g1, g2, g3, g4⟩ := growns_char h3
    refine ⟨⟨by omega, ?_, g1⟩, ?_, ?_⟩
    ·intro e; rw [e] at g4; simp at g4; omega
    ·simp only [sizeN, size, if_neg h0]; omega
    ·simp only [deepN, deep]; omega
theorem growns_char : ∀ {fs : List Flt}, Fines fs → FineNs (growns fs) ∧ sizeNs (growns fs) ≤ sizes fs ∧ deepNs (growns fs) ≤ deeps fs ∧ (growns fs).length = fs.length
 | [], _ => by simp [growns, FineNs, sizeNs, deepNs, sizes]
 | f :: fs, h => by
  obtain ⟨g1, g2, g3⟩ := grown_char h.1
  obtain ⟨q1, q2, q3, q4⟩ := growns_char h.2
  simp only [growns, FineNs, sizeNs, deepNs, sizes, deeps, List.length_cons]
  exact ⟨⟨g1, q1⟩, by omega, by omega, by omega⟩
end

def Norm (x : Flt) : Prop := (kindOf x = 0 ∨ kindOf x = 1) → x = juncF (kindOf x) (kidsOf x) ∧ Rising (kidsOf x) ∧ 2 ≤ (kidsOf x).length ∧ ∀ y ∈ kidsOf x, kindOf y ≠ kindOf x
theorem canon_len {l : List Flt} (h : l ≠ []) : canon l ≠ [] := by
 cases l with
 | nil => exact absurd rfl h
 | cons x l =>
  intro e
  have := (canon_mem (x :: l) x).2 (by simp)
  rw [e] at this
  cases this
theorem canon_one {l : List Flt} {x : Flt} (h : canon l = [x]) : (∀ y ∈ l, y = x) ∧ x ∈ l := by
 refine ⟨fun y hy => ?_, ?_⟩
 ·have := (canon_mem l y).2 hy
  rw [h] at this
  simpa using this
 ·exact (canon_mem l x).1 (by rw [h]; simp)
theorem oneF_cases (k : Int) {l : List Flt} (h : l ≠ []) : (∃ x, canon l = [x] ∧ oneF k l = x) ∨ (2 ≤ (canon l).length ∧ oneF k l = juncF k (canon l)) := by
 have hne := canon_len h
 unfold oneF
 match hc : canon l with
 | [] => exact absurd hc hne
 | [x] => exact .inl ⟨x, rfl, rfl⟩
 | x :: y :: m => exact .inr ⟨by simp, rfl⟩
theorem flat1_norm {k : Int} (hk : k = 0 ∨ k = 1) {x : Flt} (h : Norm x) : flat1 k x ≠ [] ∧ ∀ y ∈ flat1 k x, kindOf y ≠ k := by
 unfold flat1
 split
 ·rename_i e
  obtain ⟨_, _, h3, h4⟩ := h (by rw [e]; exact hk)
  refine ⟨fun e' => by rw [e'] at h3; simp at h3, fun y hy => ?_⟩
  rw [← e]; exact h4 y hy
 ·rename_i e
  exact ⟨by simp, fun y hy => by simp at hy; subst hy; exact e⟩
theorem flat_norm {k : Int} (hk : k = 0 ∨ k = 1) {l : List Flt} (h : ∀ x ∈ l, Norm x) : (l ≠ [] → flat k l ≠ []) ∧ ∀ y ∈ flat k l, kindOf y ≠ k := by
 refine ⟨fun hne => ?_, fun y hy => ?_⟩
 ·cases l with
  | nil => exact absurd rfl hne
  | cons x l => rw [flat_cons]; intro e; exact (flat1_norm hk (h x (by simp))).1 (List.append_eq_nil_iff.1 e).1
 ·obtain ⟨x, hx, hy⟩ := flat_mem.1 hy
  exact (flat1_norm hk (h x hx)).2 y hy
theorem norm_one {k : Int} {l : List Flt} (hne : l ≠ []) (h : ∀ y ∈ l, kindOf y ≠ k) (hn : ∀ y ∈ l, Norm y) : Norm (oneF k l) := by
 rcases oneF_cases k hne with ⟨x, hc, e⟩ | ⟨h2, e⟩
 ·rw [e]; exact hn x (canon_one hc).2
 ·rw [e]
  intro _
  exact ⟨rfl, canon_rising l, h2, fun y hy => h y ((canon_mem l y).1 hy)⟩
inductive Norms : Flt → Prop
 | mk {x : Flt} : Norm x → ((kindOf x = 0 ∨ kindOf x = 1) → ∀ y ∈ kidsOf x, Norms y) → Norms x
theorem Norms.norm {x : Flt} (h : Norms x) : Norm x := by cases h; assumption
theorem Norms.kids {x : Flt} (h : Norms x) (hk : kindOf x = 0 ∨ kindOf x = 1) : ∀ y ∈ kidsOf x, Norms y := by cases h; rename_i h; exact h hk
theorem norms_flat {k : Int} (hk : k = 0 ∨ k = 1) {l : List Flt} (h : ∀ x ∈ l, Norms x) : ∀ y ∈ flat k l, Norms y := by
 intro y hy
 obtain ⟨x, hx, hy⟩ := flat_mem.1 hy
 unfold flat1 at hy
 split at hy
 ·rename_i e; exact (h x hx).kids (by rw [e]; exact hk) y hy
 ·simp at hy; subst hy; exact h _ hx
theorem norms_one {k : Int} {l : List Flt} (hne : l ≠ []) (h : ∀ y ∈ l, kindOf y ≠ k) (hn : ∀ y ∈ l, Norms y) : Norms (oneF k l) := by
 rcases oneF_cases k hne with ⟨x, hc, e⟩ | ⟨h2, e⟩
 ·rw [e]; exact hn x (canon_one hc).2
 ·refine .mk (norm_one hne h fun y hy => (hn y hy).norm) fun _ y hy => ?_
  rw [e] at hy
  exact hn y ((canon_mem l y).1 hy)
theorem oneF_size (k : Int) (hk : k ≠ 2) {l : List Flt} (h : l ≠ []) : size (oneF k l) ≤ sizes l + 1 := by
 rcases oneF_cases k h with ⟨x, hc, e⟩ | ⟨h2, e⟩
 ·rw [e]; have := sizes_mem (canon_one hc).2; omega
 ·rw [e]; simp only [juncF, size, if_neg hk]; have := sizes_canon l; omega
theorem oneF_deep (k : Int) {l : List Flt} {n : Nat} (h : l ≠ []) (hd : ∀ x ∈ l, deep x ≤ n) : deep (oneF k l) ≤ n + 1 := by
 rcases oneF_cases k h with ⟨x, hc, e⟩ | ⟨h2, e⟩
 ·rw [e]; have := hd x (canon_one hc).2; omega
 ·rw [e]; simp only [juncF, deep]; have := deeps_le (l := canon l) fun x hx => hd x ((canon_mem l x).1 hx); omega
theorem long_none : long [] [] [] [] [] [] = false := by simp [long]
theorem oneF_fine {k : Int} (hk : k = 0 ∨ k = 1) {l : List Flt} (h : l ≠ []) (hf : ∀ x ∈ l, Fine x) : Fine (oneF k l) := by
 rcases oneF_cases k h with ⟨x, hc, e⟩ | ⟨h2, e⟩
 ·rw [e]; exact hf x (canon_one hc).2
 ·rw [e]
  refine ⟨long_none, ?_, fines_iff.2 fun x hx => hf x ((canon_mem l x).1 hx)⟩
  have h0 : (canon l).length ≠ 0 := by omega
  rcases hk with rfl | rfl <;> simp [right] <;> omega
theorem not_fine {f : Flt} (h : Fine f) : Fine (notF f) := ⟨long_none, by simp [right], h, trivial⟩
mutual
theorem laid_char : ∀ {x : Node}, FineN x → Norms (laid x) ∧ Fine (laid x) ∧ size (laid x) ≤ sizeN x ∧ deep (laid x) ≤ deepN x
 | .lit f b, h => by
  unfold laid
  cases b with
  | false =>
   have hk := h.2
   simp only [Bool.false_eq_true, if_false]
   exact ⟨.mk (fun e => by omega) (fun e => by omega), h.1, Nat.le_refl _, by simp [deepN]⟩
  | true =>
   refine ⟨.mk (fun e => by simp [notF, kindOf] at e) (fun e => by simp [notF, kindOf] at e), not_fine h.1, ?_, ?_⟩
   ·simp [notF, size, sizes, sizeN]
   ·simp [notF, deep, deeps, deepN]
 | .junc k ks, h => by
  unfold FineN at h
  obtain ⟨hk, hne, hks⟩ := h
  obtain ⟨c1, c2, c3, c4⟩ := laids_char hks
  have hl : laids ks ≠ [] := by intro e; rw [e] at c4; cases ks with | nil => exact hne rfl | cons => simp at c4
  have hfl := flat_norm hk (l := laids ks) fun x hx => (c1 x hx).1.norm
  have hne' := hfl.1 hl
  unfold laid
  refine ⟨norms_one hne' hfl.2 (norms_flat hk fun x hx => (c1 x hx).1), oneF_fine hk hne' fun y hy => ?_, ?_, ?_⟩
  ·obtain ⟨x, hx, hy⟩ := flat_mem.1 hy
   exact fine_flat1 (c1 x hx).2 y hy
  ·have := oneF_size k (by omega) hne'
   have := sizes_flat k (laids ks)
   simp only [sizeN]; omega
  ·simp only [deepN]
   refine oneF_deep k hne' fun y hy => ?_
   obtain ⟨x, hx, hy⟩ := flat_mem.1 hy
   have := deep_flat1 hy
   have := deeps_mem hx
   omega
theorem laids_char : ∀ {xs : List Node}, FineNs xs → (∀ y ∈ laids xs, Norms y ∧ Fine y) ∧ sizes (laids xs) ≤ sizeNs xs ∧ deeps (laids xs) ≤ deepNs xs ∧ (laids xs).length = xs.length
 | [], _ => by simp [laids, sizes, deeps]
 | x :: xs, h => by
  obtain ⟨g1, g2, g3, g4⟩ := laid_char h.1
  obtain ⟨q1, q2, q3, q4⟩ := laids_char h.2
  simp only [laids, sizes, deeps, sizeNs, deepNs, List.length_cons]
  refine ⟨fun y hy => ?_, by omega, by omega, by omega⟩
  rcases List.mem_cons.1 hy with rfl | hy
  ·exact ⟨g1, g2⟩
  ·exact q1 y hy
end
theorem flat_may {k : Int} {ks : List Node} (h : FineN (.junc k ks)) (hs : sizeN (.junc k ks) ≤ 65536) (hd : deepN (.junc k ks) ≤ 65) : (∀ y ∈ flat k (laids ks), may y) ∧ (flat k (laids ks)).length ≤ 65535 := by
 unfold FineN at h
 obtain ⟨hk, hne, hks⟩ := h
 obtain ⟨c1, c2, c3, c4⟩ := laids_char hks
 simp only [sizeN] at hs
 simp only [deepN] at hd
 have hf : ∀ y ∈ flat k (laids ks), Fine y := fun y hy => by
  obtain ⟨x, hx, hy⟩ := flat_mem.1 hy
  exact fine_flat1 (c1 x hx).2 y hy
 have hsz := sizes_flat k (laids ks)
 refine ⟨fun y hy => may_iff.2 ⟨hf y hy, ?_, ?_⟩, ?_⟩
 ·obtain ⟨x, hx, hy'⟩ := flat_mem.1 hy
  have := deep_flat1 hy'
  have := deeps_mem hx
  omega
 ·have := sizes_mem hy
  omega
 ·have := sizes_pos (fines_iff.2 hf)
  omega
theorem may_form {f : Flt} (h : may f) : may (form f false) ∧ size (form f false) ≤ size f ∧ deep (form f false) ≤ deep f := by
 obtain ⟨h1, h2, h3⟩ := may_iff.1 h
 obtain ⟨g1, g2, g3⟩ := grown_char h1
 obtain ⟨_, q2, q3, q4⟩ := laid_char g1
 rw [normal_same h] at q2 q3 q4
 exact ⟨may_iff.2 ⟨q2, by omega, by omega⟩, by omega, by omega⟩
end Go.FltLaw

namespace Go.FltLaw

def turnB (t : Bool) (x : Node) : Node := if t then turnN x else x
def turnBs (t : Bool) (xs : List Node) : List Node := if t then turnNs xs else xs
theorem turnB_fine {x : Node} (h : FineN x) (t : Bool) : FineN (turnB t x) := by
 cases t
 ·exact h
 ·exact turn_fine h
end Go.FltLaw

namespace Go.FltLaw
open Go.RowKit Go.RankLaw

def NAt (tl tj : TypeId) (S : Nat → Prop) (w : World) : Nat → Node → Value → Prop
 | 0, _, _ => False
 | n + 1, .lit f b, v => ∃ (KA : Option Addr) (kc : Nat) (MA : Option Addr) (mc : Nat) (k : Int) (ks : List Flt) (ds vl st : List UInt8) (ms : List (List UInt8)) (fn rl : List UInt8) (dn : Bool),
   v = .iface tl (.agg #[.int .i8 k, .slice KA ks.length kc, .string ⟨ds.toArray⟩, .string ⟨vl.toArray⟩, .string ⟨st.toArray⟩, .slice MA ms.length mc, .string ⟨fn.toArray⟩, .string ⟨rl.toArray⟩, .bool dn, .bool b]) ∧
   FAtS S w n f (.agg #[.int .i8 k, .slice KA ks.length kc, .string ⟨ds.toArray⟩, .string ⟨vl.toArray⟩, .string ⟨st.toArray⟩, .slice MA ms.length mc, .string ⟨fn.toArray⟩, .string ⟨rl.toArray⟩, .bool dn])
 | n + 1, .junc k xs, v => ∃ (A : Option Addr) (c : Nat), v = .iface tj (.agg #[.int .i8 k, .slice A xs.length c]) ∧ xs.length ≤ c ∧ c ≤ maxLen ∧ xs.length * 16 ≤ 140737488351232 ∧
   (0 < xs.length → ∃ ad, A = some ad ∧ S ad.block ∧ ∀ i x, xs[i]? = some x → ∃ u, NAt tl tj S w n x u ∧ w.cell? (ad.add i) = some u)
section
variable {tl tj : TypeId} {S T : Nat → Prop} {w w' : World}
theorem NAt.keep (hk : ∀ p : Addr, S p.block → w'.cell? p = w.cell? p) : ∀ {n : Nat} {x : Node} {v : Value}, NAt tl tj S w n x v → NAt tl tj S w' n x v
 | 0, _, _, h => h.elim
 | n + 1, .lit f b, v, h => by
  obtain ⟨KA, kc, MA, mc, k, ks, ds, vl, st, ms, fn, rl, dn, h1, h2⟩ := h
  exact ⟨KA, kc, MA, mc, k, ks, ds, vl, st, ms, fn, rl, dn, h1, h2.keep hk⟩
 | n + 1, .junc k xs, v, h => by
  obtain ⟨A, c, h1, h2, h3, h4, h5⟩ := h
  refine ⟨A, c, h1, h2, h3, h4, fun h0 => ?_⟩
  obtain ⟨ad, e, hS, hx⟩ := h5 h0
  refine ⟨ad, e, hS, fun i x hi => ?_⟩
  obtain ⟨u, g1, g2⟩ := hx i x hi
  exact ⟨u, NAt.keep hk g1, (hk _ (by rw [RankLaw.add_block]; exact hS)).trans g2⟩
theorem NAt.mono (hST : ∀ b, S b → T b) : ∀ {n : Nat} {x : Node} {v : Value}, NAt tl tj S w n x v → NAt tl tj T w n x v
 | 0, _, _, h => h.elim
 | n + 1, .lit f b, v, h => by
  obtain ⟨KA, kc, MA, mc, k, ks, ds, vl, st, ms, fn, rl, dn, h1, h2⟩ := h
  exact ⟨KA, kc, MA, mc, k, ks, ds, vl, st, ms, fn, rl, dn, h1, h2.mono hST⟩
 | n + 1, .junc k xs, v, h => by
  obtain ⟨A, c, h1, h2, h3, h4, h5⟩ := h
  refine ⟨A, c, h1, h2, h3, h4, fun h0 => ?_⟩
  obtain ⟨ad, e, hS, hx⟩ := h5 h0
  refine ⟨ad, e, hST _ hS, fun i x hi => ?_⟩
  obtain ⟨u, g1, g2⟩ := hx i x hi
  exact ⟨u, NAt.mono hST g1, g2⟩
theorem NAt.up : ∀ {n m : Nat} {x : Node} {v : Value}, n ≤ m → NAt tl tj S w n x v → NAt tl tj S w m x v
 | 0, _, _, _, _, h => h.elim
 | n + 1, 0, _, _, hm, _ => by omega
 | n + 1, m + 1, .lit f b, v, hm, h => by
  obtain ⟨KA, kc, MA, mc, k, ks, ds, vl, st, ms, fn, rl, dn, h1, h2⟩ := h
  exact ⟨KA, kc, MA, mc, k, ks, ds, vl, st, ms, fn, rl, dn, h1, h2.up (by omega)⟩
 | n + 1, m + 1, .junc k xs, v, hm, h => by
  obtain ⟨A, c, h1, h2, h3, h4, h5⟩ := h
  refine ⟨A, c, h1, h2, h3, h4, fun h0 => ?_⟩
  obtain ⟨ad, e, hS, hx⟩ := h5 h0
  refine ⟨ad, e, hS, fun i x hi => ?_⟩
  obtain ⟨u, g1, g2⟩ := hx i x hi
  exact ⟨u, NAt.up (by omega) g1, g2⟩
theorem NAt.iface : ∀ {n : Nat} {x : Node} {v : Value}, NAt tl tj S w n x v → ∃ t u, v = .iface t u
 | 0, _, _, h => h.elim
 | _ + 1, .lit _ _, _, ⟨_, _, _, _, _, _, _, _, _, _, _, _, _, h, _⟩ => ⟨_, _, h⟩
 | _ + 1, .junc _ _, _, ⟨_, _, h, _⟩ => ⟨_, _, h⟩
def NodesIn (tl tj : TypeId) (S : Nat → Prop) (w : World) (n : Nat) (l : List Node) (us : List Value) : Prop := us.length = l.length ∧ ∀ (i : Nat) (x : Node), l[i]? = some x → ∃ u, NAt tl tj S w n x u ∧ us[i]? = some u
theorem NodesIn.nil (tl tj : TypeId) (S : Nat → Prop) (w : World) (n : Nat) : NodesIn tl tj S w n [] [] := ⟨rfl, fun i x h => by simp at h⟩
theorem NodesIn.keep {n : Nat} {l : List Node} {us : List Value} (hk : ∀ p : Addr, S p.block → w'.cell? p = w.cell? p) (h : NodesIn tl tj S w n l us) : NodesIn tl tj S w' n l us := ⟨h.1, fun i x hi => by
 obtain ⟨u, h1, h2⟩ := h.2 i x hi
 exact ⟨u, h1.keep hk, h2⟩⟩
theorem NodesIn.mono {n : Nat} {l : List Node} {us : List Value} (hk : ∀ b, S b → T b) (h : NodesIn tl tj S w n l us) : NodesIn tl tj T w n l us := ⟨h.1, fun i x hi => by
 obtain ⟨u, h1, h2⟩ := h.2 i x hi
 exact ⟨u, h1.mono hk, h2⟩⟩
theorem NodesIn.add {n : Nat} {l : List Node} {us : List Value} {x : Node} {u : Value} (h : NodesIn tl tj S w n l us) (hx : NAt tl tj S w n x u) : NodesIn tl tj S w n (l ++ [x]) (us ++ [u]) := by
 refine ⟨by simp [h.1], fun i y hi => ?_⟩
 by_cases hlt : i < l.length
 ·rw [List.getElem?_append_left hlt] at hi
  obtain ⟨v, h1, h2⟩ := h.2 i y hi
  exact ⟨v, h1, by rw [List.getElem?_append_left (by rw [h.1]; exact hlt)]; exact h2⟩
 ·rw [List.getElem?_append_right (by omega)] at hi
  have hi0 : i - l.length = 0 := by
   have := (List.getElem?_eq_some_iff.1 hi).1
   simp at this
   omega
  rw [hi0] at hi
  simp at hi
  subst hi
  exact ⟨u, hx, by rw [List.getElem?_append_right (by rw [h.1]; omega), h.1, hi0]; rfl⟩
end
end Go.FltLaw
