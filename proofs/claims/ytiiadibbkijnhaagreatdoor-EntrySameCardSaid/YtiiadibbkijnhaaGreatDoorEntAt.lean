/-
  An entry that lies in memory: 'EAt'; what comes in as one. No program.
-/
import Derived.Test.YtiiadibbkijnhaaGreatDoorFltAt
namespace Go.EntLaw
open Go.RowKit Go.ChangeShapes Go.WideShapes Go.Deep Go.FltLaw

/-- An attribute: its description, its values. -/
structure Atr where
  ds : List UInt8
  vs : List (List UInt8)
  deriving DecidableEq

/-- The texts lie at A, in blocks from lo up to hi. -/
structure VAt (w : World) (lo hi : Nat) (ms : List (List UInt8)) (A : Option Addr) (c : Nat) : Prop where
  c0 : ms.length ≤ c
  c1 : c ≤ maxLen
  n1 : ms.length * 16 ≤ 140737488351232
  m1 : ∀ m ∈ ms, m.length ≤ 140737488351232
  at_ : 0 < ms.length → ∃ ad, A = some ad ∧ lo ≤ ad.block ∧ ad.block < hi ∧ ∀ j u, ms[j]? = some u → w.cell? (ad.add j) = some (txt u)

/-- The attributes lie at KA, in blocks from lo up to hi. -/
structure EAt (w : World) (lo hi : Nat) (l : List Atr) (KA : Option Addr) (kc : Nat) : Prop where
  c0 : l.length ≤ kc
  c1 : kc ≤ maxLen
  n1 : l.length * 40 ≤ 140737488351232
  at_ : 0 < l.length → ∃ ad, KA = some ad ∧ lo ≤ ad.block ∧ ad.block < hi ∧ ∀ i a, l[i]? = some a → a.ds.length ≤ 140737488351232 ∧
    ∃ A c, VAt w lo hi a.vs A c ∧ w.cell? (ad.add (i * 2)) = some (txt a.ds) ∧ w.cell? (ad.add (i * 2 + 1)) = some (.slice A a.vs.length c)

/-- The value of an entry. -/
abbrev ent (KA : Option Addr) (n kc : Nat) : Value := .agg #[.slice KA n kc]

section
variable {w w' : World} {lo lo' hi hi' : Nat}
theorem VAt.keep {ms : List (List UInt8)} {A : Option Addr} {c : Nat} (h : VAt w lo hi ms A c) (hk : ∀ p : Addr, lo ≤ p.block → p.block < hi → w'.cell? p = w.cell? p) : VAt w' lo hi ms A c :=
  ⟨h.c0, h.c1, h.n1, h.m1, fun h0 => by
    obtain ⟨ad, e, h1, h2, h3⟩ := h.at_ h0
    exact ⟨ad, e, h1, h2, fun j u hu => (hk _ (by rw [RankLaw.add_block]; exact h1) (by rw [RankLaw.add_block]; exact h2)).trans (h3 j u hu)⟩⟩
theorem VAt.wide {ms : List (List UInt8)} {A : Option Addr} {c : Nat} (h1 : lo' ≤ lo) (h2 : hi ≤ hi') (h : VAt w lo hi ms A c) : VAt w lo' hi' ms A c :=
  ⟨h.c0, h.c1, h.n1, h.m1, fun h0 => by
    obtain ⟨ad, e, g1, g2, h3⟩ := h.at_ h0
    exact ⟨ad, e, by omega, by omega, h3⟩⟩
theorem EAt.keep {l : List Atr} {KA : Option Addr} {kc : Nat} (h : EAt w lo hi l KA kc) (hk : ∀ p : Addr, lo ≤ p.block → p.block < hi → w'.cell? p = w.cell? p) : EAt w' lo hi l KA kc :=
  ⟨h.c0, h.c1, h.n1, fun h0 => by
    obtain ⟨ad, e, h1, h2, h3⟩ := h.at_ h0
    refine ⟨ad, e, h1, h2, fun i a hi => ?_⟩
    obtain ⟨g0, A, c, g1, g2, g3⟩ := h3 i a hi
    exact ⟨g0, A, c, g1.keep hk, (hk _ (by rw [RankLaw.add_block]; exact h1) (by rw [RankLaw.add_block]; exact h2)).trans g2, (hk _ (by rw [RankLaw.add_block]; exact h1) (by rw [RankLaw.add_block]; exact h2)).trans g3⟩⟩
theorem EAt.wide {l : List Atr} {KA : Option Addr} {kc : Nat} (h1 : lo' ≤ lo) (h2 : hi ≤ hi') (h : EAt w lo hi l KA kc) : EAt w lo' hi' l KA kc :=
  ⟨h.c0, h.c1, h.n1, fun h0 => by
    obtain ⟨ad, e, g1, g2, h3⟩ := h.at_ h0
    refine ⟨ad, e, by omega, by omega, fun i a hi => ?_⟩
    obtain ⟨g0, A, c, g3, g4⟩ := h3 i a hi
    exact ⟨g0, A, c, g3.wide h1 h2, g4⟩⟩
theorem EAt.below {B : Nat} {l : List Atr} {KA : Option Addr} {kc : Nat} (h : EAt w lo B l KA kc) (hb : Below B w w') : EAt w' lo B l KA kc := h.keep fun _ _ hp => hb.cell hp
theorem VAt.below {B : Nat} {ms : List (List UInt8)} {A : Option Addr} {c : Nat} (h : VAt w lo B ms A c) (hb : Below B w w') : VAt w' lo B ms A c := h.keep fun _ _ hp => hb.cell hp
end

/-- The two cells of an attribute. -/
theorem two_at {w : World} {ad : Addr} {m : Nat} {b0 b1 : Value} (h0 : w.cell? (ad.add m) = some b0) (h1 : w.cell? (ad.add (m + 1)) = some b1) :
    w.cell? (ad.add m) = some b0 ∧ w.cell? ⟨(ad.add m).block, (ad.add m).off + 1, none⟩ = some b1 := by
  have e : (⟨(ad.add m).block, (ad.add m).off + 1, none⟩ : Addr) = ad.add (m + 1) := by
    have e1 : ((ad.add m).add 1) = ⟨(ad.add m).block, (ad.add m).off + 1, none⟩ := by
      generalize ad.add m = q
      unfold Addr.add
      rw [if_neg (by omega)]
    rw [← RankLaw.add_add, e1]
  rw [e]
  exact ⟨h0, h1⟩

/-! ### What comes in -/
section
variable {H : Type} {enc : TypeId × Value → H} {P : Program} {W : World}
theorem atr_in {ta ts : TypeId} {f0 f1 : Field} (hF : P.underlying ta = some (.struct #[f0, f1])) (hone : oneCellFields P #[f0, f1] = true) (hC : P.cellsOf ta = 2)
    (h0 : P.underlying f0.type = some .string) (h1 : P.underlying f1.type = some (.slice ts)) (hs : P.underlying ts = some .string) (hsc : P.cellsOf ts = 1) (hsb : P.bytesOf ts = 16) {fuel : Nat} {cs : List Value} {d : DataW H} {p : List MemPlace}
    (h : DataW.trod enc P W 0 (fun _ => true) true fuel ta cs = some (d, p)) (hw : ∀ x ∈ d.weights P ta, x ≤ reachBytes) :
    ∃ (a : Atr) (A : Option Addr) (c : Nat), cs = [txt a.ds, .slice A a.vs.length c] ∧ a.ds.length ≤ 140737488351232 ∧ VAt W 0 W.heap.size a.vs A c := by
  obtain ⟨xs, n, rfl, hx, hl, hlen, hf⟩ := DataW.trod_struct hF h
  rw [hC] at hl
  match xs, hlen, cs, hl with
  | [y0, y1], _, [c0, c1], _ =>
    simp only [Prod.mk.injEq] at hx
    obtain ⟨rfl, rfl⟩ := hx
    obtain ⟨o0, k0⟩ := hone_of hone 0 f0 rfl
    obtain ⟨o1, k1⟩ := hone_of hone 1 f1 rfl
    have g0 : DataW.trod enc P W 0 (fun _ => true) true n f0.type [c0] = some y0 := by simpa [o0, k0] using hf 0 f0 rfl
    have g1 : DataW.trod enc P W 0 (fun _ => true) true n f1.type [c1] = some y1 := by simpa [o1, k1] using hf 1 f1 rfl
    have hwx : ∀ x, x ∈ y0.1.weights P f0.type ∨ x ∈ y1.1.weights P f1.type → x ≤ reachBytes := by
      intro x hx
      refine hw x ?_
      simp only [DataW.weights, hF, List.map_cons, List.map_nil, DataW.weightsEach, List.mem_append]
      rcases hx with h | h
      · exact .inl h
      · exact .inr (.inl h)
    obtain ⟨s, e, he, _⟩ := DataW.trod_string h0 g0
    have hs' := hwx s.data.toList.length (.inl (by rw [he]; simp [DataW.weights]))
    unfold reachBytes at hs'
    obtain ⟨MA, ms, mc, e1, q0, q1, q2, q3, q4⟩ := strs_in h1 hs hsc hsb (d := y1.1) (p := y1.2) g1 fun x hx => hwx x (.inr hx)
    simp only [List.cons.injEq, and_true] at e e1
    subst e e1
    exact ⟨⟨s.data.toList, ms⟩, MA, mc, by simp [txt], by simpa using (by omega : s.data.toList.length ≤ 140737488351232), ⟨q0, q1, q2, q3, q4⟩⟩

theorem atrs_in {tl ta ts : TypeId} {f0 f1 : Field} (hl : P.underlying tl = some (.slice ta)) (hF : P.underlying ta = some (.struct #[f0, f1])) (hone : oneCellFields P #[f0, f1] = true) (hC : P.cellsOf ta = 2) (hB : P.bytesOf ta = 40)
    (h0 : P.underlying f0.type = some .string) (h1 : P.underlying f1.type = some (.slice ts)) (hs : P.underlying ts = some .string) (hsc : P.cellsOf ts = 1) (hsb : P.bytesOf ts = 16) {fuel : Nat} {cs : List Value} {d : DataW H} {p : List MemPlace}
    (h : DataW.trod enc P W 0 (fun _ => true) true fuel tl cs = some (d, p)) (hw : ∀ x ∈ d.weights P tl, x ≤ reachBytes) :
    ∃ (l : List Atr) (KA : Option Addr) (kc : Nat), cs = [.slice KA l.length kc] ∧ EAt W 0 W.heap.size l KA kc := by
  rcases DataW.trod_slice hl h with ⟨ec, _⟩ | ⟨a, len, cap, elems, rest, m, hnm, ec, hy, _, hle, hm, hel, hcell, hsp, _⟩
  · exact ⟨[], none, 0, ec, by simp, by simp [maxLen], by simp, fun h0 => by simp at h0⟩
  · obtain ⟨hrl, _⟩ := hsp rfl
    simp only [Prod.mk.injEq] at hy
    obtain ⟨rfl, _⟩ := hy
    have hw1 := hw (cap * 40) (by
      simp only [DataW.weights, hl, hB, List.length_map, hel, hrl]
      refine List.mem_cons.2 (.inl ?_)
      congr 1
      omega)
    have hw1' : cap * 40 ≤ 140737488351232 := by unfold reachBytes at hw1; omega
    have each : ∀ i, i < len → ∃ x : Atr × Option Addr × Nat, x.1.ds.length ≤ 140737488351232 ∧ VAt W 0 W.heap.size x.1.vs x.2.1 x.2.2 ∧ W.cell? (a.add (i * 2)) = some (txt x.1.ds) ∧ W.cell? (a.add (i * 2 + 1)) = some (.slice x.2.1 x.1.vs.length x.2.2) ∧ a.block < W.heap.size := by
      intro i hi
      have key := hcell i hi
      rw [List.getElem?_eq_getElem (by omega), hC] at key
      obtain ⟨cs', q1, q2⟩ := Option.bind_eq_some_iff.1 key
      obtain ⟨_, hcl, hat⟩ := World.cells?_some q1
      obtain ⟨x, A, c, e, q3, q4⟩ := atr_in hF hone hC h0 h1 hs hsc hsb q2 (fun x hx => hw x (by
        simp only [DataW.weights, hl]
        refine List.mem_cons.2 (.inr (List.mem_append_left _ ?_))
        have sub : ∀ (l : List (DataW H × List MemPlace)) (y : DataW H × List MemPlace), y ∈ l → ∀ x ∈ y.1.weights P ta, x ∈ DataW.weightsAll P ta (l.map (·.1)) := by
          intro l y hyl x hx
          induction l with
          | nil => cases hyl
          | cons b l ihl =>
            simp only [List.map_cons, DataW.weightsAll, List.mem_append]
            rcases List.mem_cons.1 hyl with rfl | hyl
            · exact .inl hx
            · exact .inr (ihl hyl)
        exact sub elems _ (List.getElem_mem _) x hx))
      subst e
      have e0 := hat 0 (by omega)
      have e1 := hat 1 (by omega)
      rw [RankLaw.add_add] at e0 e1
      refine ⟨(x, A, c), q3, q4, by simpa using e0, by simpa using e1, ?_⟩
      have := World.block_lt_of_cell? W _ (u := txt x.ds) (by simpa using e0)
      rwa [RankLaw.add_block] at this
    haveI : Inhabited (Atr × Option Addr × Nat) := ⟨(⟨[], []⟩, none, 0)⟩
    obtain ⟨F, hF'⟩ := choose_lt each
    refine ⟨(List.range len).map fun i => (F i).1, some a, cap, by simpa using ec, by simpa using hle, hm, by simp; omega, fun h0 => ?_⟩
    have hn : 0 < len := by simpa using h0
    refine ⟨a, rfl, Nat.zero_le _, (hF' 0 hn).2.2.2.2, fun i x hx => ?_⟩
    rw [List.getElem?_map] at hx
    obtain ⟨j, hj, rfl⟩ := Option.map_eq_some_iff.1 hx
    have hi : i < len := by
      have := (List.getElem?_eq_some_iff.1 hj).1
      simpa using this
    rw [List.getElem?_range hi] at hj
    simp only [Option.some.injEq] at hj
    subst hj
    obtain ⟨g1, g2, g3, g4, _⟩ := hF' i hi
    exact ⟨g1, _, _, g2, g3, g4⟩
end
end Go.EntLaw
