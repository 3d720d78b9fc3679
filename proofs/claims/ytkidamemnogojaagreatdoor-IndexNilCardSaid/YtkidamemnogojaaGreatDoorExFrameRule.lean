/-
  The abstract machine: a part of the heap turns, the rest stays.
-/
import Derived.Test.YtkidamemnogojaaGreatDoorExLow2
set_option linter.unusedVariables false
set_option linter.unusedSimpArgs false
namespace Go.Ex

theorem Rel.congr {B G : Nat} {σ : Sg} {hp hp' : Tr Blk} {w : World} (h : Rel B G σ hp w) (he : ∀ x, hp'.get x = hp.get x) : Rel B G σ hp' w :=
  ⟨fun i b hb => h.blk i b (by rw [← he]; exact hb), fun i j b c k z z' hi hj => h.inj i j b c k z z' (by rw [← he]; exact hi) (by rw [← he]; exact hj), h.gl⟩
theorem Ext.congr {σ τ : Sg} {hp hp' hq hq' : Tr Blk} {nx nx' : Nat} {w w' : World} (h : Ext σ τ hp hp' nx nx' w w') (he : ∀ x, hq.get x = hp.get x) (he' : ∀ x, hq'.get x = hp'.get x) : Ext σ τ hq hq' nx nx' w w' :=
  ⟨h.sub, h.dom, h.le, h.os, h.tape, h.output, h.size, fun k hk hn => h.keep k hk fun i b z hb hs => hn i b z (by rw [he]; exact hb) hs,
    fun i b k z hb hs => by
      rcases h.own i b k z (by rw [← he']; exact hb) hs with ⟨j, c, z', hc, h1, h2⟩ | h1
      · exact .inl ⟨j, c, z', by rw [he]; exact hc, h1, h2⟩
      · exact .inr h1⟩
theorem Ext.widen {σ τ : Sg} {hp hp' : Tr Blk} {a b nx nx' : Nat} {w w' : World} (h : Ext σ τ hp hp' nx nx' w w') (h1 : a ≤ nx) (h2 : nx' ≤ b) : Ext σ τ hp hp' a b w w' :=
  ⟨h.sub, fun i L hi => (h.dom i L hi).imp id fun ⟨h3, h4⟩ => ⟨Nat.le_trans h1 h3, Nat.lt_of_lt_of_le h4 h2⟩, Nat.le_trans h1 (Nat.le_trans h.le h2), h.os, h.tape, h.output, h.size, h.keep, h.own⟩
theorem Ext.both {σ τ υ : Sg} {hp hp' hp'' : Tr Blk} {a b : Nat} {w w' w'' : World} (h : Ext σ τ hp hp' a b w w') (k : Ext τ υ hp' hp'' a b w' w'') : Ext σ υ hp hp'' a b w w'' where
  sub := h.sub.trans k.sub
  dom := fun i L hi => by
    rcases k.dom i L hi with h1 | h1
    · exact h.dom i L h1
    · exact .inr h1
  le := h.le
  os := k.os.trans h.os
  tape := k.tape.trans h.tape
  output := k.output.trans h.output
  size := Nat.le_trans h.size k.size
  keep := fun b hb hn => by
    rw [k.keep b (Nat.lt_of_lt_of_le hb h.size) ?_, h.keep b hb hn]
    intro i c z hc hs
    cases hw : c.wr with
    | false => rfl
    | true =>
      rcases h.own i c b z hc hs with ⟨j, d, z', hd, hj, himp⟩ | hge
      · have := hn j d z' hd hj; rw [himp hw] at this; cases this
      · omega
  own := fun i b b' z hb hs => by
    rcases k.own i b b' z hb hs with ⟨j, c, z', hc, hj, himp⟩ | hge
    · rcases h.own j c b' z' hc hj with ⟨j', c', z'', hc', hj', himp'⟩ | hge
      · exact .inl ⟨j', c', z'', hc', hj', fun e => himp' (himp e)⟩
      · exact .inr hge
    · exact .inr (Nat.le_trans h.size hge)

/-- A part of a heap. -/
theorem Rel.part {B G : Nat} {σ : Sg} {hp V : Tr Blk} {w : World} (h : Rel B G σ hp w) (hV : ∀ x b, V.get x = some b → hp.get x = some b) : Rel B G σ V w :=
  ⟨fun i b hb => h.blk i b (hV i b hb), fun i j b c k z z' hi hj => h.inj i j b c k z z' (hV i b hi) (hV j c hj), h.gl⟩

theorem Rel.frame {B G : Nat} {σ τ : Sg} {hp V : Tr Blk} {dl : List (Nat × Option Blk)} {nx nx' : Nat} {w w' : World} (hr : Rel B G σ hp w) (hV : ∀ x b, V.get x = some b → hp.get x = some b)
    (h1 : Rel B G τ (app dl V) w') (h2 : Ext σ τ V (app dl V) nx nx' w w') : Rel B G τ (app dl hp) w' ∧ Ext σ τ hp (app dl hp) nx nx' w w' := by
  have cases' : ∀ x b, (app dl hp).get x = some b → (app dl V).get x = some b ∨ (hp.get x = some b ∧ V.get x = none) := by
    intro x b hx
    rw [app_get] at hx ⊢
    cases hl : look dl x with
    | some v => rw [hl] at hx; exact .inl hx
    | none =>
      rw [hl] at hx
      simp only at hx ⊢
      cases hv : V.get x with
      | none => exact .inr ⟨hx, rfl⟩
      | some c => left; rw [← hx, hV x c hv]
  have old : ∀ x b, hp.get x = some b → ∃ k z o, σ x = some (k, z) ∧ k < w.heap.size ∧ w.heap[k]? = some o ∧ Ro σ z b o ∧ (b.wr = true → B ≤ k) := by
    intro x b hx
    obtain ⟨k, z, o, h3, h4, h5, h6⟩ := hr.blk x b hx
    exact ⟨k, z, o, h3, (Array.getElem?_eq_some_iff.1 h4).1, h4, h5, h6⟩
  have apart : ∀ x b y c k z z', (app dl V).get x = some b → hp.get y = some c → V.get y = none → τ x = some (k, z) → τ y = some (k, z') → False := by
    intro x b y c k z z' hx hy hvy hsx hsy
    obtain ⟨ky, zy, o, h3, h4, _⟩ := old y c hy
    have := h2.sub _ _ h3
    rw [hsy] at this; simp at this; obtain ⟨rfl, rfl⟩ := this
    rcases h2.own x b k z hx hsx with ⟨j, d, z'', hd, hj, _⟩ | hge
    · have := hr.inj j y d c k z'' z' (hV j d hd) hy hj h3
      subst this; rw [hd] at hvy; cases hvy
    · omega
  refine ⟨⟨?_, ?_, h1.gl⟩, ⟨h2.sub, h2.dom, h2.le, h2.os, h2.tape, h2.output, h2.size, fun k hk hn => h2.keep k hk fun i b z hb hs => hn i b z (hV i b hb) hs, ?_⟩⟩
  · intro x b hx
    rcases cases' x b hx with h | ⟨h, hv⟩
    · exact h1.blk x b h
    · obtain ⟨k, z, o, h3, h4, h5, h6, h7⟩ := old x b h
      refine ⟨k, z, o, h2.sub _ _ h3, ?_, h6.mono h2.sub, h7⟩
      rw [h2.keep k h4 ?_]; exact h5
      intro i c z' hc hs
      have := hr.inj i x c b k z' z (hV i c hc) h hs h3
      subst this; rw [hc] at hv; cases hv
  · intro x y b c k z z' hx hy hsx hsy
    rcases cases' x b hx with h | ⟨h, hv⟩
    · rcases cases' y c hy with h' | ⟨h', hv'⟩
      · exact h1.inj x y b c k z z' h h' hsx hsy
      · exact (apart x b y c k z z' h h' hv' hsx hsy).elim
    · rcases cases' y c hy with h' | ⟨h', hv'⟩
      · exact (apart y c x b k z' z h' h hv hsy hsx).elim
      · obtain ⟨k1, z1, _, h3, _⟩ := old x b h
        obtain ⟨k2, z2, _, h4, _⟩ := old y c h'
        have e1 := h2.sub _ _ h3
        have e2 := h2.sub _ _ h4
        rw [hsx] at e1; simp at e1; obtain ⟨rfl, rfl⟩ := e1
        rw [hsy] at e2; simp at e2; obtain ⟨rfl, rfl⟩ := e2
        exact hr.inj x y b c k z z' h h' h3 h4
  · intro i b k z hb hs
    rcases cases' i b hb with h | ⟨h, hv⟩
    · rcases h2.own i b k z h hs with ⟨j, c, z', hc, h3, h4⟩ | h3
      · exact .inl ⟨j, c, z', hV j c hc, h3, h4⟩
      · exact .inr h3
    · obtain ⟨k1, z1, _, h3, _⟩ := old i b h
      have e1 := h2.sub _ _ h3
      rw [hs] at e1; simp at e1; obtain ⟨rfl, rfl⟩ := e1
      exact .inl ⟨i, b, z, h, h3, fun e => e⟩

/-! ### Operations in whatever order: what a set of them leaves -/
/-- What is known of an operation of a region. -/
structure Ent where
  V : Tr Blk
  dl : List (Nat × Option Blk)
  v : AV
  nx : Nat
  nx' : Nat
  ft : Option (List Nat)

noncomputable def Ent.names (e : Ent) : List Nat := e.dl.map (·.1)

section
variable (hp0 : Tr Blk) (tm0 : Tr AV) (W : Nat → Ent) (dst : Nat → Option Tmp) (D : Nat → Bool)
/-- The heap behind those of the first m operations that are done. -/
noncomputable def hpD : Nat → Nat → Option Blk
  | 0, x => hp0.get x
  | m + 1, x => bif D m then (match look (W m).dl x with | some v => v | none => hpD m x) else hpD m x
noncomputable def tmD : Nat → Nat → Option AV
  | 0, t => tm0.get t
  | m + 1, t => bif D m then (if dst m = some t then some (W m).v else tmD m t) else tmD m t
end

/-- All of them. -/
noncomputable def allD : Nat → Bool := fun _ => true
noncomputable def addD (D : Nat → Bool) (k : Nat) : Nat → Bool := fun m => bif Nat.beq m k then true else D m

/-- What has been seen of the operations of a region; 'bs k' has a bit for each operation that comes before k. -/
structure Facts (hp0 : Tr Blk) (tm0 : Tr AV) (ops : Array Oper) (bs : Nat → Nat) (W : Nat → Ent) (n : Nat) : Prop where
  view : ∀ k, k < n → ∀ x b, (W k).V.get x = some b → hpD hp0 W allD k x = some b ∧ (∀ j, j < k → Nat.testBit (bs k) j = false → x ∉ (W j).names) ∧ ∀ l, (W k).ft = some l → x ∈ l
  beside : ∀ j k, j < k → k < n → Nat.testBit (bs k) j = false → (∀ x, x ∈ (W k).names → x ∉ (W j).names ∧ match (W j).ft with | none => (W j).nx ≤ x | some l => x ∉ l) ∧ ∀ x y, ops[j]? = some x → ops[k]? = some y → Oper.apart ops x y = true
  low : ∀ k, k < n → ∀ x b, hpD hp0 W allD k x = some b → x < (W k).nx

section
variable {hp0 : Tr Blk} {tm0 : Tr AV} {ops : Array Oper} {bs : Nat → Nat} {W : Nat → Ent} {n : Nat} {D : Nat → Bool} {k : Nat}

theorem look_names {k x : Nat} (h : x ∉ (W k).names) : look (W k).dl x = none := look_none fun p hp e => h (by rw [← e]; exact List.mem_map_of_mem hp)

theorem view_in (h : Facts hp0 tm0 ops bs W n) (hcl : ∀ m, m < n → D m = true → ∀ j, Nat.testBit (bs m) j = true → D j = true) (hk : k < n) (hD : D k = false) (hb : ∀ j, Nat.testBit (bs k) j = true → D j = true) {x : Nat} {b : Blk}
    (hx : (W k).V.get x = some b) : hpD hp0 W D n x = some b := by
  obtain ⟨h1, h2, h3⟩ := h.view k hk x b hx
  have s1 : ∀ m, m ≤ k → hpD hp0 W D m x = hpD hp0 W allD m x := by
    intro m
    induction m with
    | zero => intro _; rfl
    | succ m ih =>
      intro hm
      simp only [hpD, allD, cond_true]
      rw [ih (by omega)]
      cases hd : D m with
      | true => rfl
      | false =>
        have hlo : Nat.testBit (bs k) m = false := by
          cases ht : Nat.testBit (bs k) m with
          | false => rfl
          | true => have := hb m ht; rw [hd] at this; cases this
        rw [look_names (h2 m (by omega) hlo)]; rfl
  have s2 : ∀ m, k ≤ m → m ≤ n → hpD hp0 W D m x = some b := by
    intro m
    induction m with
    | zero => intro hkm _; have : k = 0 := by omega
              subst this; rw [s1 0 (Nat.le_refl _)]; exact h1
    | succ m ih =>
      intro hkm hmn
      by_cases e : k = m + 1
      · subst e; rw [s1 _ (Nat.le_refl _)]; exact h1
      · have ih := ih (by omega) (by omega)
        simp only [hpD]
        cases hd : D m with
        | false => exact ih
        | true =>
          have hkm' : k ≠ m := fun e => by subst e; rw [hD] at hd; cases hd
          have hlo : Nat.testBit (bs m) k = false := by
            cases ht : Nat.testBit (bs m) k with
            | false => rfl
            | true => have := hcl m (by omega) hd k ht; rw [hD] at this; cases this
          have hnm : x ∉ (W m).names := fun hm => by
            obtain ⟨_, h5⟩ := (h.beside k m (by omega) (by omega) hlo).1 x hm
            cases hft : (W k).ft with
            | none => rw [hft] at h5; have := h.low k hk x b h1; simp only at h5; omega
            | some l => rw [hft] at h5; exact h5 (h3 l hft)
          rw [look_names hnm]; exact ih
  exact s2 n (by omega) (Nat.le_refl _)

theorem after_hp (h : Facts hp0 tm0 ops bs W n) (hcl : ∀ m, m < n → D m = true → ∀ j, Nat.testBit (bs m) j = true → D j = true) (hk : k < n) (hD : D k = false) (x : Nat) :
    hpD hp0 W (addD D k) n x = match look (W k).dl x with | some v => v | none => hpD hp0 W D n x := by
  have s1 : ∀ m, m ≤ k → hpD hp0 W (addD D k) m x = hpD hp0 W D m x := by
    intro m
    induction m with
    | zero => intro _; rfl
    | succ m ih =>
      intro hm
      simp only [hpD, addD, beq_f (show m ≠ k by omega), cond_false]
      rw [ih (by omega)]
  have s2 : ∀ m, k < m → m ≤ n → hpD hp0 W (addD D k) m x = match look (W k).dl x with | some v => v | none => hpD hp0 W D m x := by
    intro m
    induction m with
    | zero => intro hkm; omega
    | succ m ih =>
      intro hkm hmn
      by_cases e : k = m
      · subst e
        simp only [hpD, addD, beq_t, cond_true, hD, cond_false]
        rw [s1 _ (Nat.le_refl _)]
      · have ih := ih (by omega) (by omega)
        simp only [hpD, addD, beq_f (Ne.symm e), cond_false, ih]
        cases hd : D m with
        | false => rfl
        | true =>
          have hlo : Nat.testBit (bs m) k = false := by
            cases ht : Nat.testBit (bs m) k with
            | false => rfl
            | true => have := hcl m (by omega) hd k ht; rw [hD] at this; cases this
          simp only [cond_true]
          cases hl : look (W k).dl x with
          | none => rfl
          | some v =>
            have hxk : x ∈ (W k).names := look_mem hl
            have hxm : x ∉ (W m).names := fun hm => ((h.beside k m (by omega) (by omega) hlo).1 x hm).1 hxk
            rw [look_names hxm]
  exact s2 n hk (Nat.le_refl _)

variable {dst : Nat → Option Tmp}
theorem tm_in (hdst : ∀ (m : Nat) (o : Oper), ops[m]? = some o → dst m = o.dst) (hn : n ≤ ops.size) (h : Facts hp0 tm0 ops bs W n) (hcl : ∀ m, m < n → D m = true → ∀ j, Nat.testBit (bs m) j = true → D j = true) (hk : k < n) (hD : D k = false) (hb : ∀ j, Nat.testBit (bs k) j = true → D j = true)
    {o : Oper} (ho : ops[k]? = some o) {t : Nat} (ht : t ∈ o.looksAt ops) : tmD tm0 W dst D n t = tmD tm0 W dst allD k t := by
  have hat : ∀ m, m < n → ∃ om, ops[m]? = some om := fun m hm => ⟨ops[m]'(by omega), by simp [show m < ops.size by omega]⟩
  have s1 : ∀ m, m ≤ k → tmD tm0 W dst D m t = tmD tm0 W dst allD m t := by
    intro m
    induction m with
    | zero => intro _; rfl
    | succ m ih =>
      intro hm
      simp only [tmD, allD, cond_true]
      rw [ih (by omega)]
      cases hd : D m with
      | true => rfl
      | false =>
        have hlo : Nat.testBit (bs k) m = false := by
          cases ht : Nat.testBit (bs k) m with
          | false => rfl
          | true => have := hb m ht; rw [hd] at this; cases this
        obtain ⟨om, hom⟩ := hat m (by omega)
        have hap := (Oper.apart_spec ((h.beside m k (by omega) hk hlo).2 om o hom ho)).1
        rw [if_neg]; · rfl
        intro e
        rw [hdst m om hom] at e
        exact hap t e ht
  have s2 : ∀ m, k ≤ m → m ≤ n → tmD tm0 W dst D m t = tmD tm0 W dst allD k t := by
    intro m
    induction m with
    | zero => intro hkm _; have : k = 0 := by omega
              subst this; rw [s1 0 (Nat.le_refl _)]
    | succ m ih =>
      intro hkm hmn
      by_cases e : k = m + 1
      · subst e; rw [s1 _ (Nat.le_refl _)]
      · have ih := ih (by omega) (by omega)
        simp only [tmD]
        cases hd : D m with
        | false => exact ih
        | true =>
          have hkm' : k ≠ m := fun e => by subst e; rw [hD] at hd; cases hd
          have hlo : Nat.testBit (bs m) k = false := by
            cases ht : Nat.testBit (bs m) k with
            | false => rfl
            | true => have := hcl m (by omega) hd k ht; rw [hD] at this; cases this
          obtain ⟨om, hom⟩ := hat m (by omega)
          have hap := (Oper.apart_spec ((h.beside k m (by omega) (by omega) hlo).2 o om ho hom)).2.2
          simp only [cond_true]
          rw [if_neg]; · exact ih
          intro e
          rw [hdst m om hom] at e
          exact hap t e ht
  exact s2 n (by omega) (Nat.le_refl _)

theorem after_tm (hdst : ∀ (m : Nat) (o : Oper), ops[m]? = some o → dst m = o.dst) (hn : n ≤ ops.size) (h : Facts hp0 tm0 ops bs W n) (hcl : ∀ m, m < n → D m = true → ∀ j, Nat.testBit (bs m) j = true → D j = true) (hk : k < n) (hD : D k = false) (t : Nat) :
    tmD tm0 W dst (addD D k) n t = if dst k = some t then some (W k).v else tmD tm0 W dst D n t := by
  have hat : ∀ m, m < n → ∃ om, ops[m]? = some om := fun m hm => ⟨ops[m]'(by omega), by simp [show m < ops.size by omega]⟩
  have s1 : ∀ m, m ≤ k → tmD tm0 W dst (addD D k) m t = tmD tm0 W dst D m t := by
    intro m
    induction m with
    | zero => intro _; rfl
    | succ m ih =>
      intro hm
      simp only [tmD, addD, beq_f (show m ≠ k by omega), cond_false]
      rw [ih (by omega)]
  have s2 : ∀ m, k < m → m ≤ n → tmD tm0 W dst (addD D k) m t = if dst k = some t then some (W k).v else tmD tm0 W dst D m t := by
    intro m
    induction m with
    | zero => intro hkm; omega
    | succ m ih =>
      intro hkm hmn
      by_cases e : k = m
      · subst e
        simp only [tmD, addD, beq_t, cond_true, hD, cond_false]
        rw [s1 _ (Nat.le_refl _)]
      · have ih := ih (by omega) (by omega)
        simp only [tmD, addD, beq_f (Ne.symm e), cond_false, ih]
        cases hd : D m with
        | false => rfl
        | true =>
          have hlo : Nat.testBit (bs m) k = false := by
            cases ht : Nat.testBit (bs m) k with
            | false => rfl
            | true => have := hcl m (by omega) hd k ht; rw [hD] at this; cases this
          obtain ⟨ok, hok⟩ := hat k hk
          obtain ⟨om, hom⟩ := hat m (by omega)
          have hap := (Oper.apart_spec ((h.beside k m (by omega) (by omega) hlo).2 ok om hok hom)).2.1
          simp only [cond_true]
          by_cases hkt : dst k = some t
          · have hmt : dst m ≠ some t := fun e => by
              rw [hdst m om hom] at e
              rw [hdst k ok hok] at hkt
              exact hap t hkt e
            simp [hkt, hmt]
          · simp [hkt]
  exact s2 n hk (Nat.le_refl _)

theorem hpD_congr {W' : Nat → Ent} {D' : Nat → Bool} (x : Nat) : ∀ m, (∀ j, j < m → W' j = W j ∧ D' j = D j) → hpD hp0 W' D' m x = hpD hp0 W D m x := by
  intro m
  induction m with
  | zero => intro _; rfl
  | succ m ih =>
    intro h
    simp only [hpD]
    rw [ih fun j hj => h j (by omega), (h m (by omega)).1, (h m (by omega)).2]
theorem tmD_congr {W' : Nat → Ent} {D' : Nat → Bool} (t : Nat) : ∀ m, (∀ j, j < m → W' j = W j ∧ D' j = D j) → tmD tm0 W' dst D' m t = tmD tm0 W dst D m t := by
  intro m
  induction m with
  | zero => intro _; rfl
  | succ m ih =>
    intro h
    simp only [tmD]
    rw [ih fun j hj => h j (by omega), (h m (by omega)).1, (h m (by omega)).2]
end
end Go.Ex
