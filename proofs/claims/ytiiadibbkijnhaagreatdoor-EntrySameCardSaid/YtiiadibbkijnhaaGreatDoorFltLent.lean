/-
  A filter lent: its lists in rows of their own. Plain laws, no program.
-/
import Derived.Test.YtiiadibbkijnhaaGreatDoorFltAt
import Derived.Test.YtiiadibbkijnhaaGreatDoorFltOrd
namespace Go.FltLaw
open Go.RowKit Go.RankLaw

/-- KidsIn that have been put into a row: each one's lists lie in blocks of its own, away from the row's. -/
def KidsIn (sp : Bool) (w : World) (B n : Nat) (ks : List Flt) (rb : Option Nat) (xs : List Value) : Prop :=
  ∀ i f, ks[i]? = some f → ∃ v lo hi, FAt sp w lo hi n f v ∧ B ≤ lo ∧ hi ≤ w.heap.size ∧ (∀ b, rb = some b → b < lo ∨ hi ≤ b) ∧ ∀ j u, v.cells[j]? = some u → xs[i * 9 + j]? = some u

section
variable {sp : Bool} {w w2 w3 : World} {B n k g : Nat} {ks : List Flt} {rb : Option Nat} {xs news : List Value} {f : Flt} {v : Value}

theorem KidsIn.none (sp : Bool) (w : World) (B n : Nat) (ks : List Flt) (rb : Option Nat) (xs : List Value) : KidsIn sp w B n (ks.take 0) rb xs := by
  intro i f h
  simp at h

theorem KidsIn.grown (h : KidsIn sp w B n ks rb xs) (hg : w.grownBy w3 rb) : KidsIn sp w3 B n ks rb xs := by
  intro i f hi
  obtain ⟨v, lo, hi', h1, h2, h3, h4, h5⟩ := h i f hi
  refine ⟨v, lo, hi', h1.keep fun p hp1 hp2 => World.cell?_of_block (hg.block _ (by omega) fun e => ?_), h2, Nat.le_trans h3 hg.size, h4, h5⟩
  have := h4 _ e.symm
  omega

/-- One more kid is put in. -/
theorem KidsIn.step (h : KidsIn sp w B n (ks.take k) rb xs) (hx : xs.length = k * 9) (hk : ks[k]? = some f) (hb : Below w.heap.size w w2) (hf : FAt sp w2 w.heap.size w2.heap.size n f v) (hB : B ≤ w.heap.size)
    (hrb : ∀ b, rb = some b → b < w.heap.size) (hg : w2.grownBy w3 rb) (hat : rb = some g ∨ w2.heap.size ≤ g) (hnew : v.cells.toList = news) : KidsIn sp w3 B n (ks.take (k + 1)) (some g) (xs ++ news) := by
  intro i f' hi
  have hik : i < k + 1 := by
    have := (List.getElem?_eq_some_iff.1 hi).1
    simp at this; omega
  rw [List.getElem?_take, if_pos hik] at hi
  have hs := hb.size
  have hs3 := hg.size
  by_cases hlt : i < k
  · obtain ⟨v', lo, hi', h1, h2, h3, h4, h5⟩ := h i f' (by rw [List.getElem?_take, if_pos hlt]; exact hi)
    refine ⟨v', lo, hi', h1.keep fun p hp1 hp2 => (World.cell?_of_block (hg.block _ (by omega) fun e => ?_)).trans (hb.cell (by omega)), h2, by omega, ?_, fun j u hu => ?_⟩
    · have := h4 _ e.symm
      omega
    · intro b hb'
      injection hb' with hb'
      subst hb'
      rcases hat with e | e
      · exact h4 _ e
      · exact .inr (by omega)
    · have := h5 j u hu
      rw [List.getElem?_append_left (List.getElem?_eq_some_iff.1 this).1]
      exact this
  · have e : i = k := by omega
    subst e
    rw [hk] at hi
    injection hi with hi
    subst hi
    refine ⟨v, w.heap.size, w2.heap.size, hf.keep fun p hp1 hp2 => World.cell?_of_block (hg.block _ (by omega) fun e => ?_), hB, hs3, ?_, fun j u hu => ?_⟩
    · have := hrb _ e.symm
      omega
    · intro b hb'
      injection hb' with hb'
      subst hb'
      rcases hat with e | e
      · exact .inl (hrb _ e)
      · exact .inr e
    · rw [List.getElem?_append_right (by omega), ← hnew]
      simpa [hx] using hu

theorem KidsIn.keep (h : KidsIn sp w B n ks rb xs) (hs : w.heap.size ≤ w3.heap.size) (hk : ∀ p : Addr, B ≤ p.block → p.block < w.heap.size → (∀ b, rb = some b → p.block ≠ b) → w3.cell? p = w.cell? p) : KidsIn sp w3 B n ks rb xs := by
  intro i f hi
  obtain ⟨v, lo, hi', h1, h2, h3, h4, h5⟩ := h i f hi
  exact ⟨v, lo, hi', h1.keep fun p hp1 hp2 => hk p (by omega) (by omega) fun b e => by have := h4 _ e; omega, h2, by omega, h4, h5⟩
end

/-! ### A filter's nine cells -/
theorem nine_at {w : World} {ad : Addr} {m : Nat} {b0 b1 b2 b3 b4 b5 b6 b7 b8 : Value} (h : ∀ j u, (Value.agg #[b0, b1, b2, b3, b4, b5, b6, b7, b8]).cells[j]? = some u → w.cell? (ad.add (m + j)) = some u) :
    w.cell? (ad.add m) = some b0 ∧ w.cell? ⟨(ad.add m).block, (ad.add m).off + 1, none⟩ = some b1 ∧ w.cell? ⟨(ad.add m).block, (ad.add m).off + 2, none⟩ = some b2 ∧ w.cell? ⟨(ad.add m).block, (ad.add m).off + 3, none⟩ = some b3 ∧
      w.cell? ⟨(ad.add m).block, (ad.add m).off + 4, none⟩ = some b4 ∧ w.cell? ⟨(ad.add m).block, (ad.add m).off + 5, none⟩ = some b5 ∧ w.cell? ⟨(ad.add m).block, (ad.add m).off + 6, none⟩ = some b6 ∧
      w.cell? ⟨(ad.add m).block, (ad.add m).off + 7, none⟩ = some b7 ∧ w.cell? ⟨(ad.add m).block, (ad.add m).off + 8, none⟩ = some b8 := by
  have e : ∀ i, 0 < i → (⟨(ad.add m).block, (ad.add m).off + i, none⟩ : Addr) = ad.add (m + i) := fun i hi => by
    have e1 : ((ad.add m).add i) = ⟨(ad.add m).block, (ad.add m).off + i, none⟩ := by
      generalize ad.add m = q
      unfold Addr.add
      rw [if_neg (by omega)]
    rw [← add_add, e1]
  rw [e 1 (by omega), e 2 (by omega), e 3 (by omega), e 4 (by omega), e 5 (by omega), e 6 (by omega), e 7 (by omega), e 8 (by omega)]
  exact ⟨h 0 b0 rfl, h 1 b1 rfl, h 2 b2 rfl, h 3 b3 rfl, h 4 b4 rfl, h 5 b5 rfl, h 6 b6 rfl, h 7 b7 rfl, h 8 b8 rfl⟩
theorem FAt.form {sp : Bool} {w : World} {lo hi : Nat} : ∀ {n : Nat} {f : Flt} {v : Value}, FAt sp w lo hi n f v → ∃ b0 b1 b2 b3 b4 b5 b6 b7 b8, v = .agg #[b0, b1, b2, b3, b4, b5, b6, b7, b8]
  | 0, _, _, h => h.elim
  | _ + 1, .mk .., _, ⟨_, _, _, _, h, _⟩ => ⟨_, _, _, _, _, _, _, _, _, h⟩

theorem FAt.formF {sp : Bool} {w : World} {lo hi : Nat} : ∀ {n : Nat} {f : Flt} {v : Value}, FAt sp w lo hi n f v → ∃ (k : Int) (KA : Option Addr) (kn kc : Nat) (ds vl st : List UInt8) (MA : Option Addr) (mn mc : Nat) (fn rl : List UInt8) (dn : Bool),
    v = .agg #[.int .i8 k, .slice KA kn kc, .string ⟨ds.toArray⟩, .string ⟨vl.toArray⟩, .string ⟨st.toArray⟩, .slice MA mn mc, .string ⟨fn.toArray⟩, .string ⟨rl.toArray⟩, .bool dn]
  | 0, _, _, h => h.elim
  | _ + 1, .mk .., _, ⟨_, _, _, _, h, _⟩ => ⟨_, _, _, _, _, _, _, _, _, _, _, _, _, h⟩
theorem nine_one (k : Int) (KA : Option Addr) (kn kc : Nat) (ds vl st : List UInt8) (MA : Option Addr) (mn mc : Nat) (fn rl : List UInt8) (dn : Bool) :
    ∀ u ∈ [Value.int .i8 k, .slice KA kn kc, .string ⟨ds.toArray⟩, .string ⟨vl.toArray⟩, .string ⟨st.toArray⟩, .slice MA mn mc, .string ⟨fn.toArray⟩, .string ⟨rl.toArray⟩, .bool dn], u.oneCell' = true := by simp [Value.oneCell']
theorem FAt.form1 {sp : Bool} {w : World} {lo hi : Nat} : ∀ {n : Nat} {f : Flt} {v : Value}, FAt sp w lo hi n f v → ∃ b0 b1 b2 b3 b4 b5 b6 b7 b8, v = .agg #[b0, b1, b2, b3, b4, b5, b6, b7, b8] ∧ ∀ u ∈ [b0, b1, b2, b3, b4, b5, b6, b7, b8], u.oneCell' = true
  | 0, _, _, h => h.elim
  | _ + 1, .mk .., _, ⟨_, _, _, _, h, _⟩ => ⟨_, _, _, _, _, _, _, _, _, h, by simp [Value.oneCell']⟩
theorem news_new (w : World) (cs : Array Value) (t : TypeId) {B : Nat} (hB : B = w.heap.size) : ∀ j u, cs.toList[j]? = some u → (w.alloc (.cells cs t)).cell? ((⟨B, 0, none⟩ : Addr).add j) = some u := by
  subst hB
  intro j u hu
  have e : (⟨w.heap.size, 0, none⟩ : Addr).add j = ⟨w.heap.size, j, none⟩ := by unfold Addr.add; split <;> simp_all
  rw [e]
  simpa using hu
theorem rd_txts {w : World} {B : Nat} {MA : Option Addr} {ms : List (List UInt8)} (h : 0 < ms.length → ∃ ad, MA = some ad ∧ 0 ≤ ad.block ∧ ad.block < B ∧ ∀ j u, ms[j]? = some u → w.cell? (ad.add j) = some (txt u)) : Rd w B MA ms.length (ms.map txt) := by
  refine ⟨by simp, fun h0 => ?_⟩
  obtain ⟨ad, h1, _, h3, h4⟩ := h h0
  refine ⟨ad, h1, h3, fun j u hu => ?_⟩
  rw [List.getElem?_map] at hu
  obtain ⟨m, hm, rfl⟩ := Option.map_eq_some_iff.1 hu
  exact h4 j m hm
theorem txts_one (ms : List (List UInt8)) : ∀ u ∈ ms.map txt, u.oneCell' = true := by
  intro u hu
  obtain ⟨m, _, rfl⟩ := List.mem_map.1 hu
  rfl
theorem FAt.drew {sp : Bool} {w : World} {lo hi n : Nat} {f : Flt} {v : Value} (h : FAt sp w lo hi n f v) : FAt sp w.drew lo hi n f v := FAt.keep (w := w) (w' := w.drew) (fun _ _ _ => rfl) h
theorem own_later {w w2 : World} {base : Nat} {e : TypeId} {size n : Nat} {v : Value} {xs : List Value} (h : w.ownsRow base e size v n xs) (hb : Below w.heap.size w w2) : w2.ownsRow base e size v n xs :=
  h.kept (row := none) ⟨hb.os, hb.tape, hb.output, hb.size, fun k hk _ => hb.block k hk⟩ (by cases v.ownBlock <;> simp)

/-- An element of nine cells in a row of one's own. -/
theorem row_cell {w : World} {B : Nat} {e : TypeId} {size g m c : Nat} {xs : List Value} (h : w.ownsRow B e size (.slice (some ⟨g, 0, none⟩) m c) m xs) {j : Nat} {u : Value} (hu : xs[j]? = some u) : w.cell? ⟨g, j, none⟩ = some u := by
  rw [h.cellAt j (by have := (List.getElem?_eq_some_iff.1 hu).1; rw [h.1] at this; exact this), hu]
theorem row_form {w : World} {B : Nat} {e : TypeId} {size g m c : Nat} {xs : List Value} (h : w.ownsRow B e size (.slice (some ⟨g, 0, none⟩) m c) m xs) : B ≤ g ∧ g < w.heap.size ∧ m ≤ c ∧ c ≤ maxLen := by
  obtain ⟨_, h | ⟨g', cap, cur, hv, hb, hg, hc, hm, _⟩⟩ := h
  · exact absurd h.1 (by simp)
  · simp only [Value.slice.injEq, Option.some.injEq, Addr.mk.injEq] at hv
    obtain ⟨⟨rfl, _⟩, _, rfl⟩ := hv
    exact ⟨hb, (Array.getElem?_eq_some_iff.1 hg).1, hc, hm⟩

theorem own_blocks {w w' : World} {base : Nat} {e : TypeId} {size n : Nat} {v : Value} {xs : List Value} (h : w.ownsRow base e size v n xs) (hk : ∀ b, base ≤ b → w'.heap[b]? = w.heap[b]?) : w'.ownsRow base e size v n xs := by
  obtain ⟨h1, h2⟩ := h
  refine ⟨h1, ?_⟩
  rcases h2 with h2 | ⟨g, cap, cur, hv, hg, hh, r⟩
  · exact .inl h2
  · exact .inr ⟨g, cap, cur, hv, hg, by rw [hk g hg]; exact hh, r⟩
theorem KidsIn.turn {sp : Bool} {w w3 : World} {B n g : Nat} {ks : List Flt} {rb : Option Nat} {xs : List Value} (h : KidsIn sp w B n ks rb xs) (hs : w.heap.size ≤ w3.heap.size)
    (hk : ∀ b, B ≤ b → b < w.heap.size → (∀ b', rb = some b' → b ≠ b') → w3.heap[b]? = w.heap[b]?) (hat : rb = some g ∨ w.heap.size ≤ g) : KidsIn sp w3 B n ks (some g) xs := by
  intro i f hi
  obtain ⟨v, lo, hi', h1, h2, h3, h4, h5⟩ := h i f hi
  refine ⟨v, lo, hi', h1.keep fun p hp1 hp2 => World.cell?_of_block (hk _ (by omega) (by omega) fun b e => by have := h4 _ e; omega), h2, by omega, ?_, h5⟩
  intro b hb
  injection hb with hb
  subst hb
  rcases hat with e | e
  · exact h4 _ e
  · exact .inr (by omega)

/-- What a lent filter is. -/
theorem lent_at {w : World} {B n : Nat} {e es : TypeId} {k : Int} {ks : List Flt} {kc0 mc0 kc mc gk gm : Nat} {ds vl st : List UInt8} {ms : List (List UInt8)} {fn rl : List UInt8} {dn : Bool} {xs sp1 sp2 : List Value}
    (hf : Fits k ks.length kc0 ds vl st ms mc0 fn rl) (hk : KidsIn true w B n ks (some gk) xs) (hx : xs.length = ks.length * 9)
    (hrow : w.ownsRow B e 9 (.slice (some ⟨gk, 0, none⟩) (ks.length + 2) kc) (ks.length + 2) (xs ++ (sp1 ++ sp2))) (hs1 : sp1.length = 9) (hs1' : sp1[2]? = some spareTxt) (hs2' : sp2[2]? = some spareTxt)
    (hms : w.ownsRow B es 1 (.slice (some ⟨gm, 0, none⟩) (ms.length + 2) mc) (ms.length + 2) (ms.map txt ++ [spareTxt, spareTxt])) :
    FAt true w B w.heap.size (n + 1) (.mk k ks ds vl st ms fn rl dn) (flt k (some ⟨gk, 0, none⟩) ks.length kc ds vl st (some ⟨gm, 0, none⟩) ms.length mc fn rl dn) := by
  obtain ⟨r1, r2, r3, r4⟩ := row_form hrow
  obtain ⟨q1, q2, q3, q4⟩ := row_form hms
  have adk : ∀ j, (⟨gk, 0, none⟩ : Addr).add j = ⟨gk, j, none⟩ := fun j => by unfold Addr.add; split <;> simp_all
  have adm : ∀ j, (⟨gm, 0, none⟩ : Addr).add j = ⟨gm, j, none⟩ := fun j => by unfold Addr.add; split <;> simp_all
  refine ⟨_, _, _, _, rfl, ⟨hf.k0, hf.k1, by omega, r4, hf.kn1, hf.ds1, hf.vl1, hf.st1, by omega, q4, hf.mn1, hf.ms1, hf.fn1, hf.rl1⟩, fun _ => ⟨_, rfl, q1, q2, fun j u hu => ?_⟩, fun _ => ⟨_, rfl, r1, r2, fun i f hi => ?_⟩, fun _ => ⟨_, _, rfl, rfl, r1, r2, q1, q2, r3, q3, ?_, ?_, ?_, ?_⟩⟩
  · rw [adm]
    refine row_cell hms ?_
    rw [List.getElem?_append_left (by simpa using (List.getElem?_eq_some_iff.1 hu).1), List.getElem?_map, hu]; rfl
  · obtain ⟨v, lo, hi', h1, h2, h3, h4, h5⟩ := hk i f hi
    refine ⟨v, h1.wide h2 h3, fun j u hu => ?_⟩
    rw [adk]
    have := h5 j u hu
    refine row_cell hrow ?_
    rw [List.getElem?_append_left (List.getElem?_eq_some_iff.1 this).1]
    exact this
  · refine row_cell hrow ?_
    rw [List.getElem?_append_right (by omega), List.getElem?_append_left (by omega), hx, Nat.add_sub_cancel_left]
    exact hs1'
  · refine row_cell hrow ?_
    rw [List.getElem?_append_right (by omega), List.getElem?_append_right (by omega), hx, hs1, show (ks.length + 1) * 9 + 2 - ks.length * 9 - 9 = 2 by omega]
    exact hs2'
  · refine row_cell hms ?_
    rw [List.getElem?_append_right (by simp)]
    simp
  · refine row_cell hms ?_
    rw [List.getElem?_append_right (by simp)]
    simp

/-- The lent filter's last steps: texts, spare kids and spare texts are put in; the blocks below are written. -/
theorem lent_end {wr w5 w6 w7 w' : World} {H n : Nat} {e es : TypeId} {k : Int} {ks : List Flt} {kc0 mc0 g6 cap6 g7 cap7 : Nat} {ds vl st : List UInt8} {ms : List (List UInt8)} {fn rl : List UInt8} {dn : Bool} {xs sp1 sp2 : List Value} {u4 v5 : Value} {o1 o2 : Obj}
    (hf : Fits k ks.length kc0 ds vl st ms mc0 fn rl) (hk : KidsIn true wr (H + 3) n ks u4.ownBlock xs) (hx : xs.length = ks.length * 9) (hs1 : sp1.length = 9) (hs1' : sp1[2]? = some spareTxt) (hs2' : sp2[2]? = some spareTxt)
    (h5 : wr.grownBy w5 (Value.slice none 0 0).ownBlock) (h6 : (w5.alloc o1).grownBy w6 u4.ownBlock) (h7 : (w6.alloc o2).grownBy w7 v5.ownBlock) (hu : ∀ b, u4.ownBlock = some b → H + 3 ≤ b ∧ b < wr.heap.size)
    (a5 : v5.ownBlock = (Value.slice none 0 0).ownBlock ∨ v5.ownBlock = some wr.heap.size) (a6 : u4.ownBlock = some g6 ∨ g6 = (w5.alloc o1).heap.size)
    (hrow : w6.ownsRow (H + 3) e 9 (.slice (some ⟨g6, 0, none⟩) (ks.length + 2) cap6) (ks.length + 2) (xs ++ (sp1 ++ sp2)))
    (hms : w7.ownsRow (H + 3) es 1 (.slice (some ⟨g7, 0, none⟩) (ms.length + 2) cap7) (ms.length + 2) (ms.map txt ++ [spareTxt, spareTxt]))
    (hw : ∀ b, H + 3 ≤ b → w'.heap[b]? = w7.heap[b]?) (hsz : w'.heap.size = w7.heap.size) :
    FAt true w' H w'.heap.size (n + 1) (.mk k ks ds vl st ms fn rl dn) (flt k (some ⟨g6, 0, none⟩) ks.length cap6 ds vl st (some ⟨g7, 0, none⟩) ms.length cap7 fn rl dn) := by
  have s5 := h5.size
  have s6 := h6.size
  have s7 := h7.size
  simp at s6 s7 a6
  have nv : ∀ b, v5.ownBlock = some b → b = wr.heap.size := fun b e => by
    rcases a5 with e' | e'
    · rw [e'] at e; cases e
    · rw [e'] at e; injection e with e; exact e.symm
  have all : ∀ b, H + 3 ≤ b → b < wr.heap.size → (∀ b', u4.ownBlock = some b' → b ≠ b') → w'.heap[b]? = wr.heap[b]? := fun b hb hlt hne => by
    rw [hw b hb, h7.block b (by simp; omega) (fun e => by have := nv b e.symm; omega), Below.heap_alloc _ _ _ (by omega), h6.block b (by simp; omega) (fun e => hne b e.symm rfl), Below.heap_alloc _ _ _ (by omega), h5.block b hlt (by intro e; cases e)]
  have hk' : KidsIn true w' (H + 3) n ks (some g6) xs := hk.turn (by omega) all (a6.imp id fun e => by omega)
  have hrow' : w'.ownsRow (H + 3) e 9 (.slice (some ⟨g6, 0, none⟩) (ks.length + 2) cap6) (ks.length + 2) (xs ++ (sp1 ++ sp2)) := by
    refine own_blocks ((hrow.alloc o2).kept h7 (.inr fun e => ?_)) hw
    have h1 := nv g6 e.symm
    rcases a6 with a | a
    · have := hu _ a; omega
    · omega
  exact (lent_at hf hk' hx hrow' hs1 hs1' hs2' (own_blocks hms hw)).wide (by omega) (Nat.le_refl _)
end Go.FltLaw
