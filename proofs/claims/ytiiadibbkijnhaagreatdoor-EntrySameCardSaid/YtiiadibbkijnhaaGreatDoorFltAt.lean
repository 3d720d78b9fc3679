/-
  A filter that lies in memory: 'FAt'; what comes in as one. No program.
-/
import Derived.Test.YtiiadibbkijnhaaGreatDoorFltLaw
import Derived.Test.YtiiadibbkijnhaaGreatDoorRankWords
import Derived.Deep.Strs
import Derived.Deep.Fields
import GoSem.ClaimJoined
namespace Go.FltLaw
open Go.RowKit Go.ChangeShapes Go.WideShapes Go.Deep

def txt (l : List UInt8) : Value := .string ⟨l.toArray⟩
def spareTxt : Value := txt [115, 112, 97, 114, 101]

/-- The value of a filter whose lists lie at KA, MA. -/
def flt (k : Int) (KA : Option Addr) (kn kc : Nat) (ds vl st : List UInt8) (MA : Option Addr) (mn mc : Nat) (fn rl : List UInt8) (dn : Bool) : Value :=
  .agg #[.int .i8 k, .slice KA kn kc, .string ⟨ds.toArray⟩, .string ⟨vl.toArray⟩, .string ⟨st.toArray⟩, .slice MA mn mc, .string ⟨fn.toArray⟩, .string ⟨rl.toArray⟩, .bool dn]

structure Fits (k : Int) (kn kc : Nat) (ds vl st : List UInt8) (ms : List (List UInt8)) (mc : Nat) (fn rl : List UInt8) : Prop where
  k0 : -128 ≤ k
  k1 : k ≤ 127
  kc0 : kn ≤ kc
  kc1 : kc ≤ maxLen
  kn1 : kn * 144 ≤ 140737488351232
  ds1 : ds.length ≤ 140737488351232
  vl1 : vl.length ≤ 140737488351232
  st1 : st.length ≤ 140737488351232
  mc0 : ms.length ≤ mc
  mc1 : mc ≤ maxLen
  mn1 : ms.length * 16 ≤ 140737488351232
  ms1 : ∀ m ∈ ms, m.length ≤ 140737488351232
  fn1 : fn.length ≤ 140737488351232
  rl1 : rl.length ≤ 140737488351232

/-- What lies behind a lent filter's lists. -/
def Spare (w : World) (lo hi : Nat) (KA : Option Addr) (kn kc : Nat) (MA : Option Addr) (mn mc : Nat) : Prop :=
  ∃ kb mb, KA = some ⟨kb, 0, none⟩ ∧ MA = some ⟨mb, 0, none⟩ ∧ lo ≤ kb ∧ kb < hi ∧ lo ≤ mb ∧ mb < hi ∧ kn + 2 ≤ kc ∧ mn + 2 ≤ mc ∧
    w.cell? ⟨kb, kn * 9 + 2, none⟩ = some spareTxt ∧ w.cell? ⟨kb, (kn + 1) * 9 + 2, none⟩ = some spareTxt ∧ w.cell? ⟨mb, mn, none⟩ = some spareTxt ∧ w.cell? ⟨mb, mn + 1, none⟩ = some spareTxt

/-- The value v is the filter: its lists lie in blocks from lo up to hi. -/
def FAt (sp : Bool) (w : World) (lo hi : Nat) : Nat → Flt → Value → Prop
  | 0, _, _ => False
  | n + 1, .mk k ks ds vl st ms fn rl dn, v => ∃ (KA : Option Addr) (kc : Nat) (MA : Option Addr) (mc : Nat),
      v = flt k KA ks.length kc ds vl st MA ms.length mc fn rl dn ∧ Fits k ks.length kc ds vl st ms mc fn rl ∧
      (0 < ms.length → ∃ ad, MA = some ad ∧ lo ≤ ad.block ∧ ad.block < hi ∧ ∀ j u, ms[j]? = some u → w.cell? (ad.add j) = some (txt u)) ∧
      (0 < ks.length → ∃ ad, KA = some ad ∧ lo ≤ ad.block ∧ ad.block < hi ∧ ∀ i f, ks[i]? = some f → ∃ v, FAt sp w lo hi n f v ∧ ∀ j u, v.cells[j]? = some u → w.cell? (ad.add (i * 9 + j)) = some u) ∧
      (sp = true → Spare w lo hi KA ks.length kc MA ms.length mc)

section
variable {sp : Bool} {w w' : World} {lo lo' hi hi' : Nat}

theorem FAt.keep (hk : ∀ p : Addr, lo ≤ p.block → p.block < hi → w'.cell? p = w.cell? p) : ∀ {n : Nat} {f : Flt} {v : Value}, FAt sp w lo hi n f v → FAt sp w' lo hi n f v
  | 0, _, _, h => h
  | n + 1, .mk k ks ds vl st ms fn rl dn, v, h => by
    obtain ⟨KA, kc, MA, mc, hv, hf, hm, hks, hs⟩ := h
    refine ⟨KA, kc, MA, mc, hv, hf, fun h0 => ?_, fun h0 => ?_, fun h0 => ?_⟩
    · obtain ⟨ad, e, h1, h2, h3⟩ := hm h0
      exact ⟨ad, e, h1, h2, fun j u hu => (hk _ (by rw [RankLaw.add_block]; exact h1) (by rw [RankLaw.add_block]; exact h2)).trans (h3 j u hu)⟩
    · obtain ⟨ad, e, h1, h2, h3⟩ := hks h0
      refine ⟨ad, e, h1, h2, fun i f hif => ?_⟩
      obtain ⟨v, hv, hc⟩ := h3 i f hif
      exact ⟨v, FAt.keep hk hv, fun j u hu => (hk _ (by rw [RankLaw.add_block]; exact h1) (by rw [RankLaw.add_block]; exact h2)).trans (hc j u hu)⟩
    · obtain ⟨kb, mb, e1, e2, h1, h2, h3, h4, h5, h6, c1, c2, c3, c4⟩ := hs h0
      exact ⟨kb, mb, e1, e2, h1, h2, h3, h4, h5, h6, (hk _ h1 h2).trans c1, (hk _ h1 h2).trans c2, (hk _ h3 h4).trans c3, (hk _ h3 h4).trans c4⟩

theorem FAt.wide (h1 : lo' ≤ lo) (h2 : hi ≤ hi') : ∀ {n : Nat} {f : Flt} {v : Value}, FAt sp w lo hi n f v → FAt sp w lo' hi' n f v
  | 0, _, _, h => h
  | n + 1, .mk k ks ds vl st ms fn rl dn, v, h => by
    obtain ⟨KA, kc, MA, mc, hv, hf, hm, hks, hs⟩ := h
    refine ⟨KA, kc, MA, mc, hv, hf, fun h0 => ?_, fun h0 => ?_, fun h0 => ?_⟩
    · obtain ⟨ad, e, g1, g2, h3⟩ := hm h0
      exact ⟨ad, e, by omega, by omega, h3⟩
    · obtain ⟨ad, e, g1, g2, h3⟩ := hks h0
      refine ⟨ad, e, by omega, by omega, fun i f hif => ?_⟩
      obtain ⟨v, hv, hc⟩ := h3 i f hif
      exact ⟨v, FAt.wide h1 h2 hv, hc⟩
    · obtain ⟨kb, mb, e1, e2, g1, g2, g3, g4, g5⟩ := hs h0
      exact ⟨kb, mb, e1, e2, by omega, by omega, by omega, by omega, g5⟩

theorem FAt.up : ∀ {n m : Nat} {f : Flt} {v : Value}, n ≤ m → FAt sp w lo hi n f v → FAt sp w lo hi m f v
  | 0, _, _, _, _, h => h.elim
  | n + 1, 0, _, _, hm, _ => by omega
  | n + 1, m + 1, .mk k ks ds vl st ms fn rl dn, v, hnm, h => by
    obtain ⟨KA, kc, MA, mc, hv, hf, hm, hks, hs⟩ := h
    refine ⟨KA, kc, MA, mc, hv, hf, hm, fun h0 => ?_, hs⟩
    obtain ⟨ad, e, g1, g2, h3⟩ := hks h0
    refine ⟨ad, e, g1, g2, fun i f hif => ?_⟩
    obtain ⟨v, hv, hc⟩ := h3 i f hif
    exact ⟨v, FAt.up (by omega) hv, hc⟩

theorem FAt.bare : ∀ {n : Nat} {f : Flt} {v : Value}, FAt sp w lo hi n f v → FAt false w lo hi n f v
  | 0, _, _, h => h.elim
  | n + 1, .mk k ks ds vl st ms fn rl dn, v, h => by
    obtain ⟨KA, kc, MA, mc, hv, hf, hm, hks, hs⟩ := h
    refine ⟨KA, kc, MA, mc, hv, hf, hm, fun h0 => ?_, fun h0 => by cases h0⟩
    obtain ⟨ad, e, g1, g2, h3⟩ := hks h0
    refine ⟨ad, e, g1, g2, fun i f hif => ?_⟩
    obtain ⟨v, hv, hc⟩ := h3 i f hif
    exact ⟨v, FAt.bare hv, hc⟩

theorem FAt.below {B n : Nat} {f : Flt} {v : Value} (h : FAt sp w lo B n f v) (hb : Below B w w') : FAt sp w' lo B n f v := h.keep fun _ _ hp => hb.cell hp
end

/-! ### What comes in -/
section
variable {H : Type} {enc : TypeId × Value → H} {P : Program} {W : World}

theorem strs_in {t e : TypeId} {fuel : Nat} {cs : List Value} {d : DataW H} {p : List MemPlace} (ht : P.underlying t = some (.slice e)) (he : P.underlying e = some .string) (hc : P.cellsOf e = 1) (hb : P.bytesOf e = 16)
    (h : DataW.trod enc P W 0 (fun _ => true) true fuel t cs = some (d, p)) (hw : ∀ x ∈ d.weights P t, x ≤ reachBytes) :
    ∃ (A : Option Addr) (ms : List (List UInt8)) (c : Nat), cs = [.slice A ms.length c] ∧ ms.length ≤ c ∧ c ≤ maxLen ∧ ms.length * 16 ≤ 140737488351232 ∧ (∀ m ∈ ms, m.length ≤ 140737488351232) ∧
      (0 < ms.length → ∃ ad, A = some ad ∧ 0 ≤ ad.block ∧ ad.block < W.heap.size ∧ ∀ j u, ms[j]? = some u → W.cell? (ad.add j) = some (txt u)) := by
  rcases open_strs ht he hc h with ⟨rfl, _⟩ | ⟨a, len, cap, m, Sx, rfl, _, hl, hm, hmm, hx, hcell⟩
  · exact ⟨none, [], 0, rfl, by simp, by simp [maxLen], by simp, by simp, fun h0 => by simp at h0⟩
  · simp only [if_true] at hmm
    subst hmm
    simp only [Prod.mk.injEq] at hx
    obtain ⟨rfl, rfl⟩ := hx
    have h1 := hw (m * 16) (by
      simp only [DataW.weights, ht, hb, List.length_map, List.length_range]
      refine List.mem_cons.2 (.inl ?_)
      congr 1
      omega)
    have h1' : m * 16 ≤ 140737488351232 := by unfold reachBytes at h1; omega
    have all_mem : ∀ (l : List Nat) (g : Nat → List UInt8) (i : Nat), i ∈ l → (g i).length ∈ DataW.weightsAll P e (l.map fun i => (DataW.lit (.string (g i)) : DataW H)) := by
      intro l g i hi
      induction l with
      | nil => cases hi
      | cons b l ih =>
        simp only [List.map_cons, DataW.weightsAll, DataW.weights, List.mem_append, List.mem_singleton]
        rcases List.mem_cons.1 hi with rfl | hi
        · exact .inl rfl
        · exact .inr (ih hi)
    refine ⟨some a, (List.range len).map fun i => (Sx i).data.toList, m, by simp, by simpa using hl, hm, by simp; omega, fun x hx => ?_, fun h0 => ?_⟩
    · obtain ⟨i, hi, rfl⟩ := List.mem_map.1 hx
      have := hw (Sx i).data.toList.length (by
        simp only [DataW.weights, ht]
        exact List.mem_cons.2 (.inr (List.mem_append_left _ (all_mem (List.range len) (fun i => (Sx i).data.toList) i hi))))
      unfold reachBytes at this
      omega
    · have hn : 0 < len := by simpa using h0
      refine ⟨a, rfl, Nat.zero_le _, ?_, fun j u hu => ?_⟩
      · have := World.block_lt_of_cell? W _ (hcell 0 (by omega)).1
        rwa [RankLaw.add_block] at this
      · have hj : j < len := by
          have := (List.getElem?_eq_some_iff.1 hu).1
          simpa using this
        rw [(hcell j (by omega)).1]
        rw [List.getElem?_map, List.getElem?_range hj] at hu
        simp only [Option.map_some, Option.some.injEq] at hu
        subst hu
        simp [txt]

theorem flt_in {tf ts : TypeId} {f0 f1 f2 f3 f4 f5 f6 f7 f8 : Field} (hF : P.underlying tf = some (.struct #[f0, f1, f2, f3, f4, f5, f6, f7, f8])) (hone : oneCellFields P #[f0, f1, f2, f3, f4, f5, f6, f7, f8] = true)
    (hC : P.cellsOf tf = 9) (hB : P.bytesOf tf = 144) (h0 : P.underlying f0.type = some (.int .i8)) (h1 : P.underlying f1.type = some (.slice tf)) (h2 : P.underlying f2.type = some .string) (h3 : P.underlying f3.type = some .string)
    (h4 : P.underlying f4.type = some .string) (h5 : P.underlying f5.type = some (.slice ts)) (h6 : P.underlying f6.type = some .string) (h7 : P.underlying f7.type = some .string) (h8 : P.underlying f8.type = some .bool)
    (hs : P.underlying ts = some .string) (hsc : P.cellsOf ts = 1) (hsb : P.bytesOf ts = 16) :
    ∀ (fuel : Nat) (cs : List Value) (d : DataW H) (p : List MemPlace), DataW.trod enc P W 0 (fun _ => true) true fuel tf cs = some (d, p) → (∀ x ∈ d.weights P tf, x ≤ reachBytes) →
      ∃ f, FAt false W 0 W.heap.size fuel f (.agg cs.toArray) := by
  intro fuel
  induction fuel using Nat.strongRecOn with
  | ind fuel ih =>
    intro cs d p h hw
    obtain ⟨xs, n, rfl, hx, hl, hlen, hf⟩ := DataW.trod_struct hF h
    rw [hC] at hl
    match xs, hlen, cs, hl with
    | [y0, y1, y2, y3, y4, y5, y6, y7, y8], _, [c0, c1, c2, c3, c4, c5, c6, c7, c8], _ =>
      simp only [Prod.mk.injEq] at hx
      obtain ⟨rfl, rfl⟩ := hx
      obtain ⟨o0, k0⟩ := hone_of hone 0 f0 rfl
      obtain ⟨o1, k1⟩ := hone_of hone 1 f1 rfl
      obtain ⟨o2, k2⟩ := hone_of hone 2 f2 rfl
      obtain ⟨o3, k3⟩ := hone_of hone 3 f3 rfl
      obtain ⟨o4, k4⟩ := hone_of hone 4 f4 rfl
      obtain ⟨o5, k5⟩ := hone_of hone 5 f5 rfl
      obtain ⟨o6, k6⟩ := hone_of hone 6 f6 rfl
      obtain ⟨o7, k7⟩ := hone_of hone 7 f7 rfl
      obtain ⟨o8, k8⟩ := hone_of hone 8 f8 rfl
      have g0 : DataW.trod enc P W 0 (fun _ => true) true n f0.type [c0] = some y0 := by simpa [o0, k0] using hf 0 f0 rfl
      have g1 : DataW.trod enc P W 0 (fun _ => true) true n f1.type [c1] = some y1 := by simpa [o1, k1] using hf 1 f1 rfl
      have g2 : DataW.trod enc P W 0 (fun _ => true) true n f2.type [c2] = some y2 := by simpa [o2, k2] using hf 2 f2 rfl
      have g3 : DataW.trod enc P W 0 (fun _ => true) true n f3.type [c3] = some y3 := by simpa [o3, k3] using hf 3 f3 rfl
      have g4 : DataW.trod enc P W 0 (fun _ => true) true n f4.type [c4] = some y4 := by simpa [o4, k4] using hf 4 f4 rfl
      have g5 : DataW.trod enc P W 0 (fun _ => true) true n f5.type [c5] = some y5 := by simpa [o5, k5] using hf 5 f5 rfl
      have g6 : DataW.trod enc P W 0 (fun _ => true) true n f6.type [c6] = some y6 := by simpa [o6, k6] using hf 6 f6 rfl
      have g7 : DataW.trod enc P W 0 (fun _ => true) true n f7.type [c7] = some y7 := by simpa [o7, k7] using hf 7 f7 rfl
      have g8 : DataW.trod enc P W 0 (fun _ => true) true n f8.type [c8] = some y8 := by simpa [o8, k8] using hf 8 f8 rfl
      have hwx : ∀ x, x ∈ y1.1.weights P f1.type ∨ x ∈ y2.1.weights P f2.type ∨ x ∈ y3.1.weights P f3.type ∨ x ∈ y4.1.weights P f4.type ∨ x ∈ y5.1.weights P f5.type ∨ x ∈ y6.1.weights P f6.type ∨ x ∈ y7.1.weights P f7.type → x ≤ reachBytes := by
        intro x hx
        refine hw x ?_
        simp only [DataW.weights, hF, List.map_cons, List.map_nil, DataW.weightsEach, List.mem_append]
        rcases hx with h | h | h | h | h | h | h
        · exact .inr (.inl h)
        · exact .inr (.inr (.inl h))
        · exact .inr (.inr (.inr (.inl h)))
        · exact .inr (.inr (.inr (.inr (.inl h))))
        · exact .inr (.inr (.inr (.inr (.inr (.inl h)))))
        · exact .inr (.inr (.inr (.inr (.inr (.inr (.inl h))))))
        · exact .inr (.inr (.inr (.inr (.inr (.inr (.inr (.inl h)))))))
      obtain ⟨k, e0, _, wk⟩ := DataW.trod_int h0 g0
      simp [Lit.wf, IntKind.min, IntKind.max, IntKind.signed, IntKind.bits] at wk
      have str : ∀ {t : TypeId} {c : Value} {y : DataW H × List MemPlace}, P.underlying t = some .string → DataW.trod enc P W 0 (fun _ => true) true n t [c] = some y → (∀ x ∈ y.1.weights P t, x ≤ reachBytes) → ∃ l : List UInt8, c = .string ⟨l.toArray⟩ ∧ l.length ≤ 140737488351232 := by
        intro t c y ht hy hwy
        obtain ⟨s, e, rfl, _⟩ := DataW.trod_string ht hy
        have := hwy s.data.toList.length (by simp [DataW.weights])
        unfold reachBytes at this
        exact ⟨s.data.toList, by simpa using e, by omega⟩
      obtain ⟨ds, rfl, ds1⟩ := str h2 g2 fun x hx => hwx x (.inr (.inl hx))
      obtain ⟨vl, rfl, vl1⟩ := str h3 g3 fun x hx => hwx x (.inr (.inr (.inl hx)))
      obtain ⟨st, rfl, st1⟩ := str h4 g4 fun x hx => hwx x (.inr (.inr (.inr (.inl hx))))
      obtain ⟨fn, rfl, fn1⟩ := str h6 g6 fun x hx => hwx x (.inr (.inr (.inr (.inr (.inr (.inl hx))))))
      obtain ⟨rl, rfl, rl1⟩ := str h7 g7 fun x hx => hwx x (.inr (.inr (.inr (.inr (.inr (.inr hx))))))
      obtain ⟨dn, e8, _⟩ := DataW.trod_bool h8 g8
      obtain ⟨MA, ms, mc, e5, mc0, mc1, mn1, ms1, hms⟩ := strs_in h5 hs hsc hsb (d := y5.1) (p := y5.2) g5 fun x hx => hwx x (.inr (.inr (.inr (.inr (.inl hx)))))
      simp only [List.cons.injEq, and_true] at e0 e5 e8
      subst e0 e5 e8
      have kids : ∃ (KA : Option Addr) (ks : List Flt) (kc : Nat), c1 = .slice KA ks.length kc ∧ ks.length ≤ kc ∧ kc ≤ maxLen ∧ ks.length * 144 ≤ 140737488351232 ∧
          (0 < ks.length → ∃ ad, KA = some ad ∧ 0 ≤ ad.block ∧ ad.block < W.heap.size ∧ ∀ i f, ks[i]? = some f → ∃ v, FAt false W 0 W.heap.size n f v ∧ ∀ j u, v.cells[j]? = some u → W.cell? (ad.add (i * 9 + j)) = some u) := by
        rcases DataW.trod_slice h1 g1 with ⟨ec, _⟩ | ⟨a, len, cap, elems, rest, m, hnm, ec, hy, _, hl, hm, hel, hcell, hsp, _⟩
        · simp only [List.cons.injEq, and_true] at ec
          exact ⟨none, [], 0, ec, by simp, by simp [maxLen], by simp, fun h0 => by simp at h0⟩
        · simp only [List.cons.injEq, and_true] at ec
          subst ec
          obtain ⟨hrl, _⟩ := hsp rfl
          have hw1 := hwx (cap * 144) (.inl (by
            rw [hy]
            simp only [DataW.weights, h1, hB, List.length_map, hel, hrl]
            refine List.mem_cons.2 (.inl ?_)
            congr 1
            omega))
          have hw1' : cap * 144 ≤ 140737488351232 := by unfold reachBytes at hw1; omega
          have each : ∀ i, i < len → ∃ f : Flt, ∃ v, FAt false W 0 W.heap.size n f v ∧ (∀ j u, v.cells[j]? = some u → W.cell? (a.add (i * 9 + j)) = some u) ∧ a.block < W.heap.size := by
            intro i hi
            have key := hcell i hi
            rw [List.getElem?_eq_getElem (by omega), hC] at key
            obtain ⟨cs', q1, q2⟩ := Option.bind_eq_some_iff.1 key
            obtain ⟨_, hcl, hat⟩ := World.cells?_some q1
            obtain ⟨f, hfa⟩ := ih m (by omega) cs' _ _ q2 (fun x hx => hwx x (.inl (by
              rw [hy]
              simp only [DataW.weights, h1]
              refine List.mem_cons.2 (.inr (List.mem_append_left _ ?_))
              have sub : ∀ (l : List (DataW H × List MemPlace)) (y : DataW H × List MemPlace), y ∈ l → ∀ x ∈ y.1.weights P tf, x ∈ DataW.weightsAll P tf (l.map (·.1)) := by
                intro l y hyl x hx
                induction l with
                | nil => cases hyl
                | cons b l ihl =>
                  simp only [List.map_cons, DataW.weightsAll, List.mem_append]
                  rcases List.mem_cons.1 hyl with rfl | hyl
                  · exact .inl hx
                  · exact .inr (ihl hyl)
              exact sub elems _ (List.getElem_mem _) x hx)))
            refine ⟨f, _, hfa.up (by omega), fun j u hu => ?_, ?_⟩
            · have hu' : cs'[j]? = some u := by simpa [Value.cells] using hu
              have hj : j < 9 := by have := (List.getElem?_eq_some_iff.1 hu').1; omega
              rw [← RankLaw.add_add, hat j hj, hu']
            · have hu := hat 0 (by omega)
              rw [List.getElem?_eq_getElem (by omega)] at hu
              have := World.block_lt_of_cell? W _ hu
              rwa [RankLaw.add_block, RankLaw.add_block] at this
          haveI : Inhabited Flt := ⟨.mk 0 [] [] [] [] [] [] [] false⟩
          obtain ⟨F, hF'⟩ := choose_lt each
          refine ⟨some a, (List.range len).map F, cap, by simp, by simpa using hl, hm, by simp; omega, fun h0 => ?_⟩
          have hn : 0 < len := by simpa using h0
          obtain ⟨_, _, _, hblk⟩ := hF' 0 hn
          refine ⟨a, rfl, Nat.zero_le _, hblk, fun i f hif => ?_⟩
          have hi : i < len := by
            have := (List.getElem?_eq_some_iff.1 hif).1
            simpa using this
          rw [List.getElem?_map, List.getElem?_range hi] at hif
          simp only [Option.map_some, Option.some.injEq] at hif
          subst hif
          obtain ⟨v, q1, q2, _⟩ := hF' i hi
          exact ⟨v, q1, q2⟩
      obtain ⟨KA, ks, kc, rfl, kc0, kc1, kn1, hks⟩ := kids
      exact ⟨.mk k ks ds vl st ms fn rl dn, KA, kc, MA, mc, rfl, ⟨by omega, by omega, kc0, kc1, kn1, ds1, vl1, st1, mc0, mc1, mn1, ms1, fn1, rl1⟩, hms, hks, fun h0 => by cases h0⟩
end
end Go.FltLaw
