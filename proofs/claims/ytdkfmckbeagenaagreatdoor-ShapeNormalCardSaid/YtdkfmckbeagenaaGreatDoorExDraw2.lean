/-
  The abstract machine: a part of the heap turns, the rest stays.
 The abstract machine: a region that draws its order: in whatever order its operations come, they leave what they leave in the order of the text.
 The abstract machine: regions that draw: the lists, the edges, the operands.
 The abstract machine: one operation of a region that draws.
-/
import Derived.Test.YtdkfmckbeagenaaGreatDoorExJoin
set_option linter.unusedVariables false
set_option linter.unusedSimpArgs false
namespace Go.Ex

theorem Rel.congr {B G : Nat} {σ : Sg} {hp hp' : Tr Blk} {w : World} (h : Rel B G σ hp w) (he : ∀ x, hp'.get x = hp.get x) : Rel B G σ hp' w :=
 ⟨fun i b hb => h.blk i b (by rw [← he]; exact hb), fun i j b c k z z' hi hj => h.inj i j b c k z z' (by rw [← he]; exact hi) (by rw [← he]; exact hj), h.gl⟩
theorem Ext.congr {σ τ : Sg} {hp hp' hq hq' : Tr Blk} {nx nx' : Nat} {w w' : World} (h : Ext σ τ hp hp' nx nx' w w') (he : ∀ x, hq.get x = hp.get x) (he' : ∀ x, hq'.get x = hp'.get x) : Ext σ τ hq hq' nx nx' w w' :=
 ⟨h.sub, h.dom, h.le, h.os, h.tape, h.output, h.size, fun k hk hn => h.keep k hk fun i b z hb hs => hn i b z (by rw [he]; exact hb) hs,
  fun i b k z hb hs => by
   rcases h.own i b k z (by rw [← he']; exact hb) hs with ⟨j, c, z', hc, h1, h2⟩ | h1
   ·exact .inl ⟨j, c, z', by rw [he]; exact hc, h1, h2⟩
   ·exact .inr h1⟩
theorem Ext.widen {σ τ : Sg} {hp hp' : Tr Blk} {a b nx nx' : Nat} {w w' : World} (h : Ext σ τ hp hp' nx nx' w w') (h1 : a ≤ nx) (h2 : nx' ≤ b) : Ext σ τ hp hp' a b w w' :=
 ⟨h.sub, fun i L hi => (h.dom i L hi).imp id fun ⟨h3, h4⟩ => ⟨Nat.le_trans h1 h3, Nat.lt_of_lt_of_le h4 h2⟩, Nat.le_trans h1 (Nat.le_trans h.le h2), h.os, h.tape, h.output, h.size, h.keep, h.own⟩
theorem Ext.both {σ τ υ : Sg} {hp hp' hp'' : Tr Blk} {a b : Nat} {w w' w'' : World} (h : Ext σ τ hp hp' a b w w') (k : Ext τ υ hp' hp'' a b w' w'') : Ext σ υ hp hp'' a b w w'' where
 sub := h.sub.trans k.sub
 dom := fun i L hi => by
  rcases k.dom i L hi with h1 | h1
  ·exact h.dom i L h1
  ·exact .inr h1
 le := h.le
 os := k.os.trans h.os
 tape := k.tape.trans h.tape
 output := k.output.trans h.output
 size := Nat.le_trans h.size k.size
 keep := fun b hb hn => by
  rw [k.keep b (Nat.lt_of_lt_of_le hb h.size) ?_, h.keep b hb hn]
  intro i c z hc hs
  cases hw : c.wr with
  | false => rfl
  | true =>
   rcases h.own i c b z hc hs with ⟨j, d, z', hd, hj, himp⟩ | hge
   ·have := hn j d z' hd hj; rw [himp hw] at this; cases this
   ·omega
 own := fun i b b' z hb hs => by
  rcases k.own i b b' z hb hs with ⟨j, c, z', hc, hj, himp⟩ | hge
  ·rcases h.own j c b' z' hc hj with ⟨j', c', z'', hc', hj', himp'⟩ | hge
   ·exact .inl ⟨j', c', z'', hc', hj', fun e => himp' (himp e)⟩
   ·exact .inr hge
  ·exact .inr (Nat.le_trans h.size hge)
theorem Rel.part {B G : Nat} {σ : Sg} {hp V : Tr Blk} {w : World} (h : Rel B G σ hp w) (hV : ∀ x b, V.get x = some b → hp.get x = some b) : Rel B G σ V w :=
 ⟨fun i b hb => h.blk i b (hV i b hb), fun i j b c k z z' hi hj => h.inj i j b c k z z' (hV i b hi) (hV j c hj), h.gl⟩
theorem Rel.frame {B G : Nat} {σ τ : Sg} {hp V : Tr Blk} {dl : List (Nat × Option Blk)} {nx nx' : Nat} {w w' : World} (hr : Rel B G σ hp w) (hV : ∀ x b, V.get x = some b → hp.get x = some b)
  (h1 : Rel B G τ (app dl V) w') (h2 : Ext σ τ V (app dl V) nx nx' w w') : Rel B G τ (app dl hp) w' ∧ Ext σ τ hp (app dl hp) nx nx' w w' := by
 have cases' : ∀ x b, (app dl hp).get x = some b → (app dl V).get x = some b ∨ (hp.get x = some b ∧ V.get x = none) := by
  intro x b hx
  rw [app_get] at hx ⊢
  cases hl : look dl x with
  | some v => rw [hl] at hx; exact .inl hx
  | none =>
   rw [hl] at hx
   simp only at hx ⊢
   cases hv : V.get x with
   | none => exact .inr ⟨hx, rfl⟩
   | some c => left; rw [← hx, hV x c hv]
 have old : ∀ x b, hp.get x = some b → ∃ k z o, σ x = some (k, z) ∧ k < w.heap.size ∧ w.heap[k]? = some o ∧ Ro σ z b o ∧ (b.wr = true → B ≤ k) := by
  intro x b hx
  obtain ⟨k, z, o, h3, h4, h5, h6⟩ := hr.blk x b hx
  exact ⟨k, z, o, h3, (Array.getElem?_eq_some_iff.1 h4).1, h4, h5, h6⟩
 have apart : ∀ x b y c k z z', (app dl V).get x = some b → hp.get y = some c → V.get y = none → τ x = some (k, z) → τ y = some (k, z') → False := by
  intro x b y c k z z' hx hy hvy hsx hsy
  obtain ⟨ky, zy, o, h3, h4, _⟩ := old y c hy
  have := h2.sub _ _ h3
  rw [hsy] at this; simp at this; obtain ⟨rfl, rfl⟩ := this
  rcases h2.own x b k z hx hsx with ⟨j, d, z'', hd, hj, _⟩ | hge
  ·have := hr.inj j y d c k z'' z' (hV j d hd) hy hj h3
   subst this; rw [hd] at hvy; cases hvy
  ·omega
 refine ⟨⟨?_, ?_, h1.gl⟩, ⟨h2.sub, h2.dom, h2.le, h2.os, h2.tape, h2.output, h2.size, fun k hk hn => h2.keep k hk fun i b z hb hs => hn i b z (hV i b hb) hs, ?_⟩⟩
 ·intro x b hx
  rcases cases' x b hx with h | ⟨h, hv⟩
  ·exact h1.blk x b h
  ·obtain ⟨k, z, o, h3, h4, h5, h6, h7⟩ := old x b h
   refine ⟨k, z, o, h2.sub _ _ h3, ?_, h6.mono h2.sub, h7⟩
   rw [h2.keep k h4 ?_]; exact h5
   intro i c z' hc hs
   have := hr.inj i x c b k z' z (hV i c hc) h hs h3
   subst this; rw [hc] at hv; cases hv
 ·intro x y b c k z z' hx hy hsx hsy
  rcases cases' x b hx with h | ⟨h, hv⟩
  ·rcases cases' y c hy with h' | ⟨h', hv'⟩
   ·exact h1.inj x y b c k z z' h h' hsx hsy
   ·exact (apart x b y c k z z' h h' hv' hsx hsy).elim
  ·rcases cases' y c hy with h' | ⟨h', hv'⟩
   ·exact (apart y c x b k z' z h' h hv hsy hsx).elim
   ·obtain ⟨k1, z1, _, h3, _⟩ := old x b h
    obtain ⟨k2, z2, _, h4, _⟩ := old y c h'
    have e1 := h2.sub _ _ h3
    have e2 := h2.sub _ _ h4
    rw [hsx] at e1; simp at e1; obtain ⟨rfl, rfl⟩ := e1
    rw [hsy] at e2; simp at e2; obtain ⟨rfl, rfl⟩ := e2
    exact hr.inj x y b c k z z' h h' h3 h4
 ·intro i b k z hb hs
  rcases cases' i b hb with h | ⟨h, hv⟩
  ·rcases h2.own i b k z h hs with ⟨j, c, z', hc, h3, h4⟩ | h3
   ·exact .inl ⟨j, c, z', hV j c hc, h3, h4⟩
   ·exact .inr h3
  ·obtain ⟨k1, z1, _, h3, _⟩ := old i b h
   have e1 := h2.sub _ _ h3
   rw [hs] at e1; simp at e1; obtain ⟨rfl, rfl⟩ := e1
   exact .inl ⟨i, b, z, h, h3, fun e => e⟩
structure Ent where
 V : Tr Blk
 dl : List (Nat × Option Blk)
 v : AV
 nx : Nat
 nx' : Nat
 ft : Option (List Nat)
noncomputable def Ent.names (e : Ent) : List Nat := e.dl.map (·.1)
section
variable (hp0 : Tr Blk) (tm0 : Tr AV) (W : Nat → Ent) (dst : Nat → Option Tmp) (D : Nat → Bool)
noncomputable def hpD : Nat → Nat → Option Blk
 | 0, x => hp0.get x
 | m + 1, x => bif D m then (match look (W m).dl x with | some v => v | none => hpD m x) else hpD m x
noncomputable def tmD : Nat → Nat → Option AV
 | 0, t => tm0.get t
 | m + 1, t => bif D m then (if dst m = some t then some (W m).v else tmD m t) else tmD m t
end

noncomputable def allD : Nat → Bool := fun _ => true
noncomputable def addD (D : Nat → Bool) (k : Nat) : Nat → Bool := fun m => bif Nat.beq m k then true else D m
structure Facts (hp0 : Tr Blk) (tm0 : Tr AV) (ops : Array Oper) (bs : Nat → Nat) (W : Nat → Ent) (n : Nat) : Prop where
 view : ∀ k, k < n → ∀ x b, (W k).V.get x = some b → hpD hp0 W allD k x = some b ∧ (∀ j, j < k → Nat.testBit (bs k) j = false → x ∉ (W j).names) ∧ ∀ l, (W k).ft = some l → x ∈ l
 beside : ∀ j k, j < k → k < n → Nat.testBit (bs k) j = false → (∀ x, x ∈ (W k).names → x ∉ (W j).names ∧ match (W j).ft with | none => (W j).nx ≤ x | some l => x ∉ l) ∧ ∀ x y, ops[j]? = some x → ops[k]? = some y → Oper.apart ops x y = true
 low : ∀ k, k < n → ∀ x b, hpD hp0 W allD k x = some b → x < (W k).nx
section
variable {hp0 : Tr Blk} {tm0 : Tr AV} {ops : Array Oper} {bs : Nat → Nat} {W : Nat → Ent} {n : Nat} {D : Nat → Bool} {k : Nat}

theorem look_names {k x : Nat} (h : x ∉ (W k).names) : look (W k).dl x = none := look_none fun p hp e => h (by rw [← e]; exact List.mem_map_of_mem hp)
theorem view_in (h : Facts hp0 tm0 ops bs W n) (hcl : ∀ m, m < n → D m = true → ∀ j, Nat.testBit (bs m) j = true → D j = true) (hk : k < n) (hD : D k = false) (hb : ∀ j, Nat.testBit (bs k) j = true → D j = true) {x : Nat} {b : Blk}
  (hx : (W k).V.get x = some b) : hpD hp0 W D n x = some b := by
 obtain ⟨h1, h2, h3⟩ := h.view k hk x b hx
 have s1 : ∀ m, m ≤ k → hpD hp0 W D m x = hpD hp0 W allD m x := by
  intro m
  induction m with
  | zero => intro _; rfl
  | succ m ih =>
   intro hm
   simp only [hpD, allD, cond_true]
   rw [ih (by omega)]
   cases hd : D m with
   | true => rfl
   | false =>
    have hlo : Nat.testBit (bs k) m = false := by
     cases ht : Nat.testBit (bs k) m with
     | false => rfl
     | true => have := hb m ht; rw [hd] at this; cases this
    rw [look_names (h2 m (by omega) hlo)]; rfl
 have s2 : ∀ m, k ≤ m → m ≤ n → hpD hp0 W D m x = some b := by
  intro m
  induction m with
  | zero => intro hkm _; have : k = 0 := by omega
            subst this; rw [s1 0 (Nat.le_refl _)]; exact h1
  | succ m ih =>
   intro hkm hmn
   by_cases e : k = m + 1
   ·subst e; rw [s1 _ (Nat.le_refl _)]; exact h1
   ·have ih := ih (by omega) (by omega)
    simp only [hpD]
    cases hd : D m with
    | false => exact ih
    | true =>
     have hkm' : k ≠ m := fun e => by subst e; rw [hD] at hd; cases hd
     have hlo : Nat.testBit (bs m) k = false := by
      cases ht : Nat.testBit (bs m) k with
      | false => rfl
      | true => have := hcl m (by omega) hd k ht; rw [hD] at this; cases this
     have hnm : x ∉ (W m).names := fun hm => by
      obtain ⟨_, h5⟩ := (h.beside k m (by omega) (by omega) hlo).1 x hm
      cases hft : (W k).ft with
      | none => rw [hft] at h5; have := h.low k hk x b h1; simp only at h5; omega
      | some l => rw [hft] at h5; exact h5 (h3 l hft)
     rw [look_names hnm]; exact ih
 exact s2 n (by omega) (Nat.le_refl _)
theorem after_hp (h : Facts hp0 tm0 ops bs W n) (hcl : ∀ m, m < n → D m = true → ∀ j, Nat.testBit (bs m) j = true → D j = true) (hk : k < n) (hD : D k = false) (x : Nat) :
  hpD hp0 W (addD D k) n x = match look (W k).dl x with | some v => v | none => hpD hp0 W D n x := by
 have s1 : ∀ m, m ≤ k → hpD hp0 W (addD D k) m x = hpD hp0 W D m x := by
  intro m
  induction m with
  | zero => intro _; rfl
  | succ m ih =>
   intro hm
   simp only [hpD, addD, beq_f (show m ≠ k by omega), cond_false]
   rw [ih (by omega)]
 have s2 : ∀ m, k < m → m ≤ n → hpD hp0 W (addD D k) m x = match look (W k).dl x with | some v => v | none => hpD hp0 W D m x := by
  intro m
  induction m with
  | zero => intro hkm; omega
  | succ m ih =>
   intro hkm hmn
   by_cases e : k = m
   ·subst e
    simp only [hpD, addD, beq_t, cond_true, hD, cond_false]
    rw [s1 _ (Nat.le_refl _)]
   ·have ih := ih (by omega) (by omega)
    simp only [hpD, addD, beq_f (Ne.symm e), cond_false, ih]
    cases hd : D m with
    | false => rfl
    | true =>
     have hlo : Nat.testBit (bs m) k = false := by
      cases ht : Nat.testBit (bs m) k with
      | false => rfl
      | true => have := hcl m (by omega) hd k ht; rw [hD] at this; cases this
     simp only [cond_true]
     cases hl : look (W k).dl x with
     | none => rfl
     | some v =>
      have hxk : x ∈ (W k).names := look_mem hl
      have hxm : x ∉ (W m).names := fun hm => ((h.beside k m (by omega) (by omega) hlo).1 x hm).1 hxk
      rw [look_names hxm]
 exact s2 n hk (Nat.le_refl _)
variable {dst : Nat → Option Tmp}
theorem tm_in (hdst : ∀ (m : Nat) (o : Oper), ops[m]? = some o → dst m = o.dst) (hn : n ≤ ops.size) (h : Facts hp0 tm0 ops bs W n) (hcl : ∀ m, m < n → D m = true → ∀ j, Nat.testBit (bs m) j = true → D j = true) (hk : k < n) (hD : D k = false) (hb : ∀ j, Nat.testBit (bs k) j = true → D j = true)
  {o : Oper} (ho : ops[k]? = some o) {t : Nat} (ht : t ∈ o.looksAt ops) : tmD tm0 W dst D n t = tmD tm0 W dst allD k t := by
 have hat : ∀ m, m < n → ∃ om, ops[m]? = some om := fun m hm => ⟨ops[m]'(by omega), by simp [show m < ops.size by omega]⟩
 have s1 : ∀ m, m ≤ k → tmD tm0 W dst D m t = tmD tm0 W dst allD m t := by
  intro m
  induction m with
  | zero => intro _; rfl
  | succ m ih =>
   intro hm
   simp only [tmD, allD, cond_true]
   rw [ih (by omega)]
   cases hd : D m with
   | true => rfl
   | false =>
    have hlo : Nat.testBit (bs k) m = false := by
     cases ht : Nat.testBit (bs k) m with
     | false => rfl
     | true => have := hb m ht; rw [hd] at this; cases this
    obtain ⟨om, hom⟩ := hat m (by omega)
    have hap := (Oper.apart_spec ((h.beside m k (by omega) hk hlo).2 om o hom ho)).1
    rw [if_neg]; · rfl
    intro e
    rw [hdst m om hom] at e
    exact hap t e ht
 have s2 : ∀ m, k ≤ m → m ≤ n → tmD tm0 W dst D m t = tmD tm0 W dst allD k t := by
  intro m
  induction m with
  | zero => intro hkm _; have : k = 0 := by omega
            subst this; rw [s1 0 (Nat.le_refl _)]
  | succ m ih =>
   intro hkm hmn
   by_cases e : k = m + 1
   ·subst e; rw [s1 _ (Nat.le_refl _)]
   ·have ih := ih (by omega) (by omega)
    simp only [tmD]
    cases hd : D m with
    | false => exact ih
    | true =>
     have hkm' : k ≠ m := fun e => by subst e; rw [hD] at hd; cases hd
     have hlo : Nat.testBit (bs m) k = false := by
      cases ht : Nat.testBit (bs m) k with
      | false => rfl
      | true => have := hcl m (by omega) hd k ht; rw [hD] at this; cases this
     obtain ⟨om, hom⟩ := hat m (by omega)
     have hap := (Oper.apart_spec ((h.beside k m (by omega) (by omega) hlo).2 o om ho hom)).2.2
     simp only [cond_true]
     rw [if_neg]; · exact ih
     intro e
     rw [hdst m om hom] at e
     exact hap t e ht
 exact s2 n (by omega) (Nat.le_refl _)
theorem after_tm (hdst : ∀ (m : Nat) (o : Oper), ops[m]? = some o → dst m = o.dst) (hn : n ≤ ops.size) (h : Facts hp0 tm0 ops bs W n) (hcl : ∀ m, m < n → D m = true → ∀ j, Nat.testBit (bs m) j = true → D j = true) (hk : k < n) (hD : D k = false) (t : Nat) :
  tmD tm0 W dst (addD D k) n t = if dst k = some t then some (W k).v else tmD tm0 W dst D n t := by
 have hat : ∀ m, m < n → ∃ om, ops[m]? = some om := fun m hm => ⟨ops[m]'(by omega), by simp [show m < ops.size by omega]⟩
 have s1 : ∀ m, m ≤ k → tmD tm0 W dst (addD D k) m t = tmD tm0 W dst D m t := by
  intro m
  induction m with
  | zero => intro _; rfl
  | succ m ih =>
   intro hm
   simp only [tmD, addD, beq_f (show m ≠ k by omega), cond_false]
   rw [ih (by omega)]
 have s2 : ∀ m, k < m → m ≤ n → tmD tm0 W dst (addD D k) m t = if dst k = some t then some (W k).v else tmD tm0 W dst D m t := by
  intro m
  induction m with
  | zero => intro hkm; omega
  | succ m ih =>
   intro hkm hmn
   by_cases e : k = m
   ·subst e
    simp only [tmD, addD, beq_t, cond_true, hD, cond_false]
    rw [s1 _ (Nat.le_refl _)]
   ·have ih := ih (by omega) (by omega)
    simp only [tmD, addD, beq_f (Ne.symm e), cond_false, ih]
    cases hd : D m with
    | false => rfl
    | true =>
     have hlo : Nat.testBit (bs m) k = false := by
      cases ht : Nat.testBit (bs m) k with
      | false => rfl
      | true => have := hcl m (by omega) hd k ht; rw [hD] at this; cases this
     obtain ⟨ok, hok⟩ := hat k hk
     obtain ⟨om, hom⟩ := hat m (by omega)
     have hap := (Oper.apart_spec ((h.beside k m (by omega) (by omega) hlo).2 ok om hok hom)).2.1
     simp only [cond_true]
     by_cases hkt : dst k = some t
     ·have hmt : dst m ≠ some t := fun e => by
       rw [hdst m om hom] at e
       rw [hdst k ok hok] at hkt
       exact hap t hkt e
      simp [hkt, hmt]
     ·simp [hkt]
 exact s2 n hk (Nat.le_refl _)
theorem hpD_congr {W' : Nat → Ent} {D' : Nat → Bool} (x : Nat) : ∀ m, (∀ j, j < m → W' j = W j ∧ D' j = D j) → hpD hp0 W' D' m x = hpD hp0 W D m x := by
 intro m
 induction m with
 | zero => intro _; rfl
 | succ m ih =>
  intro h
  simp only [hpD]
  rw [ih fun j hj => h j (by omega), (h m (by omega)).1, (h m (by omega)).2]
theorem tmD_congr {W' : Nat → Ent} {D' : Nat → Bool} (t : Nat) : ∀ m, (∀ j, j < m → W' j = W j ∧ D' j = D j) → tmD tm0 W' dst D' m t = tmD tm0 W dst D m t := by
 intro m
 induction m with
 | zero => intro _; rfl
 | succ m ih =>
  intro h
  simp only [tmD]
  rw [ih fun j hj => h j (by omega), (h m (by omega)).1, (h m (by omega)).2]
end
end Go.Ex
set_option linter.unusedVariables false
set_option linter.unusedSimpArgs false
namespace Go.Ex

noncomputable def ExecOk (P : Program) (B G : Nat) (ops : Array Oper) (sz : Nat) (tm : Nat → Option AV) (k : Nat) (o : Oper) (e : Ent) : Prop :=
 ∀ (σ : Sg) (w : World) (a : Act) (tm' : Tr AV), RT σ sz tm' a.tmps → (∀ t, t ∈ o.looksAt ops → tm'.get t = tm t) → Rel B G σ e.V w → B ≤ w.heap.size → Fresh σ e.nx e.nx' →
  ∀ (b : Frame) (rest : List Nat) (K : List Item) (cs : List Frame), ∃ τ w' v, Steps P (lone (b.atR a (.inRegion ops (k :: rest) :: K)) cs w) (lone (b.atR (a.put o.dst v) (.inRegion ops rest :: K)) cs w') ∧
   Rv τ e.v v ∧ Rel B G τ (app e.dl e.V) w' ∧ Ext σ τ e.V (app e.dl e.V) e.nx e.nx' w w'
structure Region' (P : Program) (B G : Nat) (hp0 : Tr Blk) (tm0 : Tr AV) (ops : Array Oper) (bs : Nat → Nat) (W : Nat → Ent) (sz nx0 nxn : Nat) : Prop where
 facts : Facts hp0 tm0 ops bs W ops.size
 exec : ∀ (k : Nat) (o : Oper), ops[k]? = some o → ExecOk P B G ops sz (tmD tm0 W (fun m => (ops[m]?).bind (·.dst)) allD k) k o (W k)
 nxs : ∀ k, k < ops.size → nx0 ≤ (W k).nx ∧ (W k).nx ≤ (W k).nx' ∧ (W k).nx' ≤ nxn
 nxd : ∀ j k, j < k → k < ops.size → (W j).nx' ≤ (W k).nx
 dsts : ∀ (k : Nat) (o : Oper) (d : Tmp), ops[k]? = some o → o.dst = some d → d < sz
structure Mid (B G : Nat) (hp0 : Tr Blk) (tm0 : Tr AV) (ops : Array Oper) (W : Nat → Ent) (sz nx0 nxn : Nat) (σ0 : Sg) (w0 : World) (D : Nat → Bool) (σ : Sg) (a : Act) (w : World) : Prop where
 ex : ∃ (H : Tr Blk) (T : Tr AV), (∀ x, H.get x = hpD hp0 W D ops.size x) ∧ (∀ t, T.get t = tmD tm0 W (fun m => (ops[m]?).bind (·.dst)) D ops.size t) ∧ RT σ sz T a.tmps ∧ Rel B G σ H w ∧ Ext σ0 σ hp0 H nx0 nxn w0 w
 fresh : ∀ k, k < ops.size → D k = false → Fresh σ (W k).nx (W k).nx'
section
variable {P : Program} {B G : Nat} {hp0 : Tr Blk} {tm0 : Tr AV} {ops : Array Oper} {bs : Nat → Nat} {W : Nat → Ent} {sz nx0 nxn : Nat} {σ0 : Sg} {w0 : World}

theorem mid_step (hR : Region' P B G hp0 tm0 ops bs W sz nx0 nxn) (hB : B ≤ w0.heap.size) {D : Nat → Bool} {σ : Sg} {a : Act} {w : World} (h : Mid B G hp0 tm0 ops W sz nx0 nxn σ0 w0 D σ a w)
  (hcl : ∀ m, m < ops.size → D m = true → ∀ j, Nat.testBit (bs m) j = true → D j = true) {k : Nat} {o : Oper} (ho : ops[k]? = some o) (hD : D k = false) (hb : ∀ j, Nat.testBit (bs k) j = true → D j = true)
  (b : Frame) (rest : List Nat) (K : List Item) (cs : List Frame) :
  ∃ τ a' w', Steps P (lone (b.atR a (.inRegion ops (k :: rest) :: K)) cs w) (lone (b.atR a' (.inRegion ops rest :: K)) cs w') ∧ Mid B G hp0 tm0 ops W sz nx0 nxn σ0 w0 (addD D k) τ a' w' ∧ a'.defers = a.defers := by
 have hk : k < ops.size := (Array.getElem?_eq_some_iff.1 ho).1
 obtain ⟨⟨H, T, h1, h2, h3, h4, h5⟩, hfr⟩ := h
 have hdst : ∀ (m : Nat) (o : Oper), ops[m]? = some o → (fun m => (ops[m]?).bind (·.dst)) m = o.dst := fun m o ho => by simp [ho]
 have hV : ∀ x c, (W k).V.get x = some c → H.get x = some c := fun x c hx => by rw [h1]; exact view_in hR.facts hcl hk hD hb hx
 obtain ⟨τ, w', v, k1, k2, k3, k4⟩ := hR.exec k o ho σ w a T h3 (fun t ht => by rw [h2]; exact tm_in hdst (Nat.le_refl _) hR.facts hcl hk hD hb ho ht) (h4.part hV) (Nat.le_trans hB h5.size) (hfr k hk hD) b rest K cs
 obtain ⟨g1, g2⟩ := h4.frame hV k3 k4
 obtain ⟨n1, n2, n3⟩ := hR.nxs k hk
 refine ⟨τ, a.put o.dst v, w', k1, ⟨⟨app (W k).dl H, (match o.dst with | some d => T.set d (some (W k).v) | none => T), fun x => ?_, fun t => ?_, ?_, g1, h5.both (g2.widen n1 n3)⟩, fun j hj hDj => ?_⟩, ?_⟩
 ·rw [app_get, after_hp hR.facts hcl hk hD, h1]; cases look (W k).dl x <;> rfl
 ·rw [after_tm hdst (Nat.le_refl _) hR.facts hcl hk hD, ← h2]
  simp only [ho, Option.bind_some]
  cases hd : o.dst with
  | none => simp
  | some d =>
   simp only [Option.some.injEq, Tr.get_set]
   by_cases e : t = d
   ·subst e; simp
   ·simp [e, Ne.symm e]
 ·cases hd : o.dst with
  | none => exact h3.mono k4.sub
  | some d => exact (h3.mono k4.sub).set (hR.dsts k o d ho hd) k2
 ·have hjk : j ≠ k := fun e => by subst e; simp [addD, beq_t] at hDj
  have hDj' : D j = false := by simpa [addD, beq_f hjk] using hDj
  intro i hi1 hi2
  have h0 := hfr j hj hDj' i hi1 hi2
  cases ht : τ i with
  | none => rfl
  | some L =>
   rcases k4.dom i L ht with e | ⟨e1, e2⟩
   ·rw [h0] at e; cases e
   ·rcases Nat.lt_or_gt_of_ne hjk with hlt | hlt
    ·have := hR.nxd j k hlt hk; omega
    ·have := hR.nxd k j hlt hj; omega
 ·cases o.dst <;> rfl
theorem Mid.congr {D D' : Nat → Bool} {σ : Sg} {a : Act} {w : World} (h : Mid B G hp0 tm0 ops W sz nx0 nxn σ0 w0 D σ a w) (he : ∀ k, k < ops.size → D' k = D k) : Mid B G hp0 tm0 ops W sz nx0 nxn σ0 w0 D' σ a w := by
 obtain ⟨⟨H, T, h1, h2, h3, h4, h5⟩, hfr⟩ := h
 exact ⟨⟨H, T, fun x => by rw [h1]; exact (hpD_congr x _ fun j hj => ⟨rfl, he j hj⟩).symm, fun t => by rw [h2]; exact (tmD_congr t _ fun j hj => ⟨rfl, he j hj⟩).symm, h3, h4, h5⟩, fun k hk hD => hfr k hk (by rw [← he k hk]; exact hD)⟩
noncomputable def left (listed : Array Bool) : Nat := listed.toList.countP (· == false)
theorem left_set {listed : Array Bool} {i : Nat} (h : listed.getD i true = false) : left (listed.setIfInBounds i true) + 1 = left listed := by
 have hi : i < listed.size := by
  rcases Nat.lt_or_ge i listed.size with h' | h'
  ·exact h'
  ·simp [Array.getElem?_eq_none h'] at h
 have hv : listed.toList[i]'(by simpa using hi) = false := by simpa [hi] using h
 unfold left
 rw [Array.toList_setIfInBounds, List.countP_set (by simpa using hi), hv]
 have : 0 < List.countP (· == false) listed.toList := List.countP_pos_iff.2 ⟨false, by rw [← hv]; exact List.getElem_mem _, rfl⟩
 have e1 : (false == false) = true := rfl
 have e2 : (true == false) = false := rfl
 simp only [e1, e2, if_true, Bool.false_eq_true, if_false]
 omega
noncomputable def Back (ops : Array Oper) : Prop := ∀ (k : Nat) (o : Oper), ops[k]? = some o → ∀ e ∈ o.after, Region.binds .any e = true → e.on < k
theorem ready_some (hb : Back ops) {listed : Array Bool} (hs : listed.size = ops.size) {k : Nat} (hk : listed.getD k true = false) : ∃ i, i ∈ Region.ready .any ops listed := by
 induction k using Nat.strongRecOn with
 | _ k ih =>
  have hlt : k < ops.size := by
   rcases Nat.lt_or_ge k listed.size with h' | h'
   ·omega
   ·simp [Array.getElem?_eq_none h'] at hk
  by_cases hr : k ∈ Region.ready .any ops listed
  ·exact ⟨k, hr⟩
  ·have hok : ops[k]? = some (ops[k]'hlt) := by simp [hlt]
   have : ∃ e ∈ (ops[k]'hlt).after, Region.binds .any e = true ∧ listed.getD e.on false = false := by
    refine Classical.byContradiction fun hn => hr (mem_ready.2 ⟨hk, _, hok, fun e he hbd => ?_⟩)
    cases hl : listed.getD e.on false with
    | true => rfl
    | false => exact absurd ⟨e, he, hbd, hl⟩ hn
   obtain ⟨e, he, hbd, hl⟩ := this
   have hlt' := hb k _ hok e he hbd
   refine ih e.on hlt' ?_
   have : e.on < listed.size := by omega
   simpa [this] using hl
theorem order_ok (hR : Region' P B G hp0 tm0 ops bs W sz nx0 nxn) (hB : B ≤ w0.heap.size) (hbk : Back ops) (hbs : ∀ (k : Nat) (o : Oper), ops[k]? = some o → ∀ j, Nat.testBit (bs k) j = true → ∃ e ∈ o.after, Region.binds .any e = true ∧ (j = e.on ∨ Nat.testBit (bs e.on) j = true))
  (b : Frame) (K : List Item) (cs : List Frame) : ∀ (fuel t : Nat) (listed : Array Bool) (σ : Sg) (a : Act) (w : World), listed.size = ops.size → left listed ≤ fuel →
   (∀ m, m < ops.size → listed.getD m true = true → ∀ j, Nat.testBit (bs m) j = true → listed.getD j true = true) →
   Mid B G hp0 tm0 ops W sz nx0 nxn σ0 w0 (fun m => listed.getD m true) σ a w →
   ∃ τ a' w', Steps P (lone (b.atR a (.inRegion ops (Region.linearise.go .any ops fuel t listed []) :: K)) cs w) (lone (b.atR a' (.inRegion ops [] :: K)) cs w') ∧ Mid B G hp0 tm0 ops W sz nx0 nxn σ0 w0 allD τ a' w' ∧ a'.defers = a.defers := by
 intro fuel
 induction fuel with
 | zero =>
  intro t listed σ a w hs hl hcl hm
  simp only [Region.linearise.go, List.reverse_nil]
  refine ⟨σ, a, w, .refl .., hm.congr fun k hk => ?_, rfl⟩
  show true = listed.getD k true
  have h0 : left listed = 0 := by omega
  have hk' : k < listed.size := by omega
  unfold left at h0
  rw [List.countP_eq_zero] at h0
  have := h0 (listed.toList[k]'(by simpa using hk')) (List.getElem_mem _)
  simpa [hk'] using this
 | succ fuel ih =>
  intro t listed σ a w hs hl hcl hm
  simp only [Region.linearise.go]
  change ∃ τ a' w', Steps P (lone (b.atR a (.inRegion ops (match (Region.ready .any ops listed)[t % (Region.ready .any ops listed).length]? with
   | some i => Region.linearise.go .any ops fuel (t / (Region.ready .any ops listed).length) (listed.setIfInBounds i true) [i]
   | none => [].reverse) :: K)) cs w) (lone (b.atR a' (.inRegion ops [] :: K)) cs w') ∧ Mid B G hp0 tm0 ops W sz nx0 nxn σ0 w0 allD τ a' w' ∧ a'.defers = a.defers
  cases hi : (Region.ready .any ops listed)[t % (Region.ready .any ops listed).length]? with
  | none =>
   have hnil : Region.ready .any ops listed = [] := by
    cases hr : Region.ready .any ops listed with
    | nil => rfl
    | cons x xs =>
     rw [hr] at hi
     have hlt : t % (x :: xs).length < (x :: xs).length := Nat.mod_lt _ (by simp)
     simp at hi
     simp at hlt
     omega
   simp only [List.reverse_nil]
   refine ⟨σ, a, w, .refl .., hm.congr fun k hk => ?_, rfl⟩
   show true = listed.getD k true
   cases hq : listed.getD k true with
   | true => rfl
   | false => obtain ⟨i, hi⟩ := ready_some hbk hs hq; rw [hnil] at hi; cases hi
  | some i =>
   simp only []
   rw [linearise_go_acc, List.reverse_singleton, List.singleton_append]
   obtain ⟨hun, o, ho, hall⟩ := mem_ready.1 (List.mem_of_getElem? hi)
   have hilt : i < ops.size := (Array.getElem?_eq_some_iff.1 ho).1
   have hup : ∀ e ∈ o.after, Region.binds .any e = true → listed.getD e.on true = true := fun e he hbd => by
    have h1 := hall e he hbd
    have : e.on < listed.size := by
     rcases Nat.lt_or_ge e.on listed.size with h' | h'
     ·exact h'
     ·simp [Array.getElem?_eq_none h'] at h1
    simpa [this] using h1
   have hbi : ∀ j, Nat.testBit (bs i) j = true → listed.getD j true = true := fun j hj => by
    obtain ⟨e, he, hbd, h1 | h1⟩ := hbs i o ho j hj
    ·rw [h1]; exact hup e he hbd
    ·exact hcl e.on (by have := hbk i o ho e he hbd; omega) (hup e he hbd) j h1
   obtain ⟨τ, a1, w1, s1, m1, d1⟩ := mid_step hR hB hm hcl ho hun hbi b (Region.linearise.go .any ops fuel (t / (Region.ready .any ops listed).length) (listed.setIfInBounds i true) []) K cs
   have hset : ∀ m, (listed.setIfInBounds i true).getD m true = addD (fun m => listed.getD m true) i m := by
    intro m
    by_cases e : m = i
    ·subst e; simp [addD, beq_t, show m < listed.size by omega]
    ·rw [getD_set_ne true (Ne.symm e)]; simp [addD, beq_f e]
   obtain ⟨υ, a2, w2, s2, m2, d2⟩ := ih (t / (Region.ready .any ops listed).length) (listed.setIfInBounds i true) τ a1 w1 (by simpa using hs) (by have := left_set hun; omega)
    (fun m hm' h1 j hj => by
     rw [hset] at h1 ⊢
     have h2 : listed.getD j true = true := by
      by_cases e : m = i
      ·subst e; exact hbi j hj
      ·simp only [addD, beq_f e, cond_false] at h1; exact hcl m hm' h1 j hj
     simp only [addD, h2]; cases Nat.beq j i <;> rfl)
    (m1.congr fun k _ => hset k)
   exact ⟨υ, a2, w2, s1.trans s2, m2, d2.trans d1⟩
end
end Go.Ex
set_option linter.unusedVariables false
set_option linter.unusedSimpArgs false
namespace Go.Ex

noncomputable def bfE (acc : Array Nat) (es : List Edge) (s : Nat) : Nat := es.foldl (fun s e => if Region.binds .any e then s ||| 2 ^ e.on ||| acc.getD e.on 0 else s) s
noncomputable def bfL (l : List Oper) (acc : Array Nat) : Array Nat := l.foldl (fun acc o => acc.push (bfE acc o.after.toList 0)) acc
theorem before_eq (ops : Array Oper) : Region.before ops = bfL ops.toList #[] := by
 unfold Region.before bfL bfE
 rw [← Array.foldl_toList]
 simp only [← Array.foldl_toList]
theorem bfE_spec (acc : Array Nat) (j : Nat) : ∀ (es : List Edge) (s : Nat), Nat.testBit (bfE acc es s) j = true → Nat.testBit s j = true ∨ ∃ e ∈ es, Region.binds .any e = true ∧ (j = e.on ∨ Nat.testBit (acc.getD e.on 0) j = true) := by
 intro es
 induction es with
 | nil => intro s h; exact .inl h
 | cons e es ih =>
  intro s h
  simp only [bfE, List.foldl_cons] at h
  rcases ih _ h with h1 | ⟨e', he', h1⟩
  ·cases hb : Region.binds .any e with
   | false => rw [hb] at h1; simp only [Bool.false_eq_true, if_false] at h1; exact .inl h1
   | true =>
    rw [hb] at h1
    simp only [if_true, Nat.testBit_or, Bool.or_eq_true, Nat.testBit_two_pow, decide_eq_true_eq] at h1
    rcases h1 with (h1 | h1) | h1
    ·exact .inl h1
    ·exact .inr ⟨e, by simp, hb, .inl h1.symm⟩
    ·exact .inr ⟨e, by simp, hb, .inr h1⟩
  ·exact .inr ⟨e', by simp [he'], h1⟩
theorem bfL_keep : ∀ (l : List Oper) (acc : Array Nat) (i : Nat), i < acc.size → (bfL l acc)[i]? = acc[i]? := by
 intro l
 induction l with
 | nil => intro acc i _; rfl
 | cons o l ih =>
  intro acc i hi
  simp only [bfL, List.foldl_cons]
  have := ih (acc.push (bfE acc o.after.toList 0)) i (by simp; omega)
  simp only [bfL] at this
  rw [this, Array.getElem?_push, if_neg (by omega)]
theorem bfL_spec : ∀ (l : List Oper) (acc : Array Nat) (i : Nat) (o : Oper), l[i]? = some o → ∀ j, Nat.testBit ((bfL l acc).getD (acc.size + i) 0) j = true →
  ∃ e ∈ o.after, Region.binds .any e = true ∧ (j = e.on ∨ Nat.testBit ((bfL l acc).getD e.on 0) j = true) := by
 intro l
 induction l with
 | nil => intro acc i o h; simp at h
 | cons x l ih =>
  intro acc i o h j hj
  have he : bfL (x :: l) acc = bfL l (acc.push (bfE acc x.after.toList 0)) := rfl
  rw [he] at hj ⊢
  cases i with
  | zero =>
   simp only [List.getElem?_cons_zero, Option.some.injEq] at h; subst h
   have hk := bfL_keep l (acc.push (bfE acc x.after.toList 0)) acc.size (by simp)
   rw [Nat.add_zero, Array.getD_eq_getD_getElem?, hk] at hj
   simp only [Array.getElem?_push, if_true, Option.getD_some] at hj
   rcases bfE_spec acc j _ _ hj with h1 | ⟨e, he1, he2, he3⟩
   ·simp at h1
   ·refine ⟨e, by simpa using he1, he2, ?_⟩
    rcases he3 with h1 | h1
    ·exact .inl h1
    ·right
     rcases Nat.lt_or_ge e.on acc.size with hlt | hge
     ·have hk2 := bfL_keep l (acc.push (bfE acc x.after.toList 0)) e.on (by simp; omega)
      rw [Array.getD_eq_getD_getElem?, hk2, Array.getElem?_push, if_neg (by omega), ← Array.getD_eq_getD_getElem?]
      exact h1
     ·simp [Array.getElem?_eq_none hge] at h1
  | succ i =>
   simp only [List.getElem?_cons_succ] at h
   have := ih (acc.push (bfE acc x.after.toList 0)) i o h j
   simp only [Array.size_push] at this
   exact this (by rw [show acc.size + 1 + i = acc.size + (i + 1) from by omega]; exact hj)
theorem before_spec (ops : Array Oper) (k : Nat) (o : Oper) (ho : ops[k]? = some o) (j : Nat) (h : Nat.testBit ((Region.before ops).getD k 0) j = true) :
  ∃ e ∈ o.after, Region.binds .any e = true ∧ (j = e.on ∨ Nat.testBit ((Region.before ops).getD e.on 0) j = true) := by
 rw [before_eq] at h ⊢
 have := bfL_spec ops.toList #[] k o (by simpa using ho) j
 simp only [List.size_toArray, List.length_nil, Nat.zero_add] at this
 exact this h
theorem backA_spec (ops : Array Oper) : ∀ (l : List Oper) (i : Nat), backA ops i l = true → ∀ (k : Nat) (o : Oper), l[k]? = some o → ∀ e ∈ o.after, Region.binds .any e = true → e.on < i + k := by
 intro l
 induction l with
 | nil => intro i _ k o h; simp at h
 | cons x l ih =>
  intro i h k o hk e he hb
  simp only [backA] at h
  cases hq : (x.after.toList.all fun e => !Region.binds .any e || Nat.blt e.on i) with
  | false => rw [hq] at h; cases h
  | true =>
   rw [hq] at h
   simp only [cond_true] at h
   cases k with
   | zero =>
    simp only [List.getElem?_cons_zero, Option.some.injEq] at hk; subst hk
    rw [List.all_eq_true] at hq
    have := hq e (by simpa using he)
    rw [hb] at this
    simp only [Bool.not_true, Bool.false_or] at this
    simpa using blt_iff.1 this
   | succ k =>
    have := ih (i + 1) h k o (by simpa using hk) e he hb
    omega
theorem back_of {ops : Array Oper} (h : backA ops 0 ops.toList = true) : Back ops := fun k o ho e he hb => by
 have := backA_spec ops _ _ h k o (by simpa using ho) e he hb
 omega
theorem apartN_iff {m : List Nat} : ∀ {l : List Nat}, apartN l m = true → ∀ x ∈ l, x ∉ m := by
 intro l
 induction l with
 | nil => simp
 | cons y l ih =>
  intro h x hx
  simp only [apartN] at h
  cases hq : hasN y m with
  | true => rw [hq] at h; cases h
  | false =>
   rw [hq] at h
   rcases List.mem_cons.1 hx with rfl | hx
   ·intro hm; rw [hasN_iff.2 hm] at hq; cases hq
   ·exact ih h x hx
theorem allGe_iff {n : Nat} : ∀ {l : List Nat}, allGe n l = true → ∀ x ∈ l, n ≤ x := by
 intro l
 induction l with
 | nil => simp
 | cons y l ih =>
  intro h x hx
  simp only [allGe] at h
  cases hq : Nat.ble n y with
  | false => rw [hq] at h; cases h
  | true =>
   rw [hq] at h
   rcases List.mem_cons.1 hx with rfl | hx
   ·exact ble_iff.1 hq
   ·exact ih h x hx
theorem looseA_iff {b : Nat} {r : Rec} : ∀ {l : List Rec}, r ∈ looseA b l ↔ r ∈ l ∧ Nat.testBit b r.i = false := by
 intro l
 induction l with
 | nil => simp [looseA]
 | cons y l ih =>
  simp only [looseA]
  cases hq : Nat.testBit b y.i with
  | true =>
   simp only [cond_true, ih, List.mem_cons]
   constructor
   ·rintro ⟨h1, h2⟩; exact ⟨.inr h1, h2⟩
   ·rintro ⟨rfl | h1, h2⟩
    ·rw [hq] at h2; cases h2
    ·exact ⟨h1, h2⟩
  | false =>
   simp only [cond_false, List.mem_cons, ih]
   constructor
   ·rintro (rfl | ⟨h1, h2⟩)
    ·exact ⟨.inl rfl, hq⟩
    ·exact ⟨.inr h1, h2⟩
   ·rintro ⟨rfl | h1, h2⟩
    ·exact .inl rfl
    ·exact .inr ⟨h1, h2⟩
theorem logsOf_iff {x : Nat} : ∀ {l : List Rec}, x ∈ logsOf l ↔ ∃ r ∈ l, x ∈ r.lg := by
 intro l
 induction l with
 | nil => simp [logsOf]
 | cons y l ih => simp [logsOf, ih]
theorem besideA_iff {ops : Array Oper} {o : Oper} {lg : List Nat} : ∀ {l : List Rec}, besideA ops o lg l = true → ∀ r ∈ l, (match r.ft with | none => ∀ x ∈ lg, r.nx ≤ x | some ft => ∀ x ∈ lg, x ∉ ft) ∧ (∀ x ∈ lg, x ∉ r.lg) ∧ ∃ x, ops[r.i]? = some x ∧ Oper.apart ops x o = true := by
 intro l
 induction l with
 | nil => simp
 | cons y l ih =>
  intro h r hr
  simp only [besideA] at h
  generalize hq : ((match y.ft with | none => allGe y.nx lg | some ft => apartN lg ft) && apartN lg y.lg && (match ops[y.i]? with | some x => Oper.apart ops x o | none => false)) = q at h
  cases q with
  | false => cases h
  | true =>
   rcases List.mem_cons.1 hr with rfl | hr
   ·simp only [Bool.and_eq_true] at hq
    refine ⟨?_, apartN_iff hq.1.2, ?_⟩
    ·have h1 := hq.1.1
     cases hft : r.ft with
     | none => rw [hft] at h1; exact allGe_iff h1
     | some ft => rw [hft] at h1; exact apartN_iff h1
    ·have h2 := hq.2
     split at h2
     ·rename_i x hx; exact ⟨x, hx, h2⟩
     ·cases h2
   ·exact ih h r hr
theorem without_get {x : Nat} : ∀ {l : List Nat} {hp : Tr Blk}, (without l hp).get x = if x ∈ l then none else hp.get x := by
 intro l
 induction l with
 | nil => intro hp; simp [without]
 | cons y l ih =>
  intro hp
  simp only [without, ih, List.mem_cons]
  by_cases h : x ∈ l
  ·simp [h]
  ·by_cases h2 : x = y
   ·subst h2; simp [Tr.get_set_same]
   ·simp [h, h2, Tr.get_set_other]
theorem restrictA_get {x : Nat} {b : Blk} {hp : Tr Blk} {ex : List Nat} : ∀ {l : List Nat} {acc : Tr Blk}, (restrictA hp ex l acc).get x = some b → (x ∈ l ∧ x ∉ ex ∧ hp.get x = some b) ∨ acc.get x = some b := by
 intro l
 induction l with
 | nil => intro acc h; exact .inr h
 | cons y l ih =>
  intro acc h
  simp only [restrictA] at h
  cases hq : hasN y ex with
  | true =>
   rw [hq] at h
   rcases ih h with ⟨h1, h2⟩ | h1
   ·exact .inl ⟨by simp [h1], h2⟩
   ·exact .inr h1
  | false =>
   rw [hq] at h
   rcases ih h with ⟨h1, h2⟩ | h1
   ·exact .inl ⟨by simp [h1], h2⟩
   ·by_cases e : x = y
    ·subst e
     rw [Tr.get_set_same] at h1
     exact .inl ⟨by simp, fun hm => (by rw [hasN_iff.2 hm] at hq; cases hq), h1⟩
    ·rw [Tr.get_set_other _ _ e] at h1; exact .inr h1
theorem fromTo_iff {x : Nat} : ∀ {n a : Nat}, x ∈ fromTo a n ↔ a ≤ x ∧ x < a + n := by
 intro n
 induction n with
 | zero => intro a; simp [fromTo]
 | succ n ih => intro a; simp only [fromTo, List.mem_cons, ih]; omega
theorem changes_names {hp : Tr Blk} : ∀ {l : List Nat}, (changes hp l).map (·.1) = l := by
 intro l
 induction l with
 | nil => rfl
 | cons x l ih => simp [changes, ih]
theorem changes_look {hp : Tr Blk} {x : Nat} : ∀ {l : List Nat}, look (changes hp l) x = if x ∈ l then some (hp.get x) else none := by
 intro l
 induction l with
 | nil => simp [changes, look]
 | cons y l ih =>
  simp only [changes, look, ih, List.mem_cons]
  by_cases h : x ∈ l
  ·simp [h]
  ·by_cases h2 : x = y
   ·subst h2; simp [h]
   ·simp [h, h2]
section
variable {P : Program} {G : Nat} {tm tm' : Tr AV}

theorem ev_congr {o : Oper} {ops : Array Oper} (h : ∀ t, t ∈ o.looksAt ops → tm'.get t = tm.get t) : ∀ x ∈ o.op.operands, ev G tm' x = ev G tm x := by
 intro x hx
 cases x with
 | tmp t =>
  have := h t (List.mem_append_left _ (List.mem_filterMap.2 ⟨.tmp t, by simpa using hx, rfl⟩))
  simp only [ev, evR, slot_eq, this]
 | _ => rfl
theorem parts_congr {ps : Array (Nat × Operand)} (h : ∀ x ∈ ps.map (·.2), ev G tm' x = ev G tm x) : parts G tm' ps = parts G tm ps := by
 unfold parts
 refine List.map_congr_left fun p hp => ?_
 rw [h p.2 (Array.mem_map.2 ⟨p, by simpa using hp, rfl⟩)]
theorem evs_congr {xs : Array Operand} (h : ∀ x ∈ xs, ev G tm' x = ev G tm x) : evs G tm' xs = evs G tm xs := by
 simp only [evs_eq]
 exact List.map_congr_left fun x hx => h x (by simpa using hx)
theorem aop_congr {hp : Tr Blk} {nx : Nat} (o : Oper) (h : ∀ x ∈ o.op.operands, ev G tm' x = ev G tm x) : aop P G tm' hp nx o = aop P G tm hp nx o := by
 obtain ⟨dst, op, type, pos, after, guard⟩ := o
 cases op <;> simp only [Op.operands] at h <;> simp only [aop, aopM]
 case build t ps => rw [parts_congr fun x hx => h x (by simpa using hx)]
 case buildSlice t n ps => rw [parts_congr fun x hx => h x (by simpa using hx)]
 case makeFunc fn first captured =>
  rw [evs_congr (xs := first) fun x hx => h x (by simp [hx]), evs_congr (xs := captured) fun x hx => h x (by simp [hx])]
 case call c =>
  cases hc : c.callee with
  | builtin b => simp only; rw [evs_congr (xs := c.args) fun x hx => h x (by simp [Call.operands, hx])]
  | _ => rfl
 case makeMap t r => cases r <;> simp_all
 case slice t x lo hi mx => cases lo <;> cases hi <;> cases mx <;> simp_all
 all_goals (first | rfl | (simp_all; done))
theorem callee_congr {c : Call} (h : ∀ x ∈ c.operands, ev G tm' x = ev G tm x) : calleeA P G tm' c = calleeA P G tm c := by
 have hargs := evs_congr (G := G) (tm := tm) (tm' := tm') (xs := c.args) fun x hx => h x (by simp [Call.operands, hx])
 unfold calleeA
 cases hc : c.callee with
 | value f => simp only; rw [h f (by simp [Call.operands, hc]), hargs]
 | invoke r n => simp only; rw [h r (by simp [Call.operands, hc]), hargs]
 | builtin b => rfl
theorem wanted_congr {ops : Array Oper} {o : Oper} (h : ∀ t, t ∈ o.looksAt ops → tm'.get t = tm.get t) : wantedA tm' ops o = wantedA tm ops o := by
 unfold wantedA
 cases hg : o.guard with
 | none => rfl
 | some g =>
  obtain ⟨j, want⟩ := g
  simp only
  split
  ·rename_i d hd
   have hd' : (ops[j]?).bind (·.dst) = some d := by rw [← Array.getElem?_toList]; exact hd
   rw [h d (by simp [Oper.looksAt, hg, hd'])]
  ·rfl
end
end Go.Ex
set_option linter.unusedVariables false
set_option linter.unusedSimpArgs false
namespace Go.Ex

def Fin' (Κ : List Item) (P : Program) (B G : Nat) (σ : Sg) (s : St) (rd : Option Nat) (fn : FuncId) (m : Machine) (cs0 : List Frame) (w : World) (v : AV) (s' : St) : Prop :=
 (isStopV v = true → Goes Κ P B G σ s rd fn m cs0 w s' ∧ s'.cs = [] ∧ s'.fr.ret = false ∧ s'.fr.todo = [.stop]) ∧ (isStopV v = false → Ends P B G σ s rd fn m cs0 w v s')
noncomputable def RunOk (P : Program) (G : Nat) (runC : St → Option (AV × St)) : Prop := ∀ s v s', runC s = some (v, s') → Low s.hp s.nx → Keeps s s' ∧
 ∀ (Κ : List Item) (B : Nat) (σ : Sg) (rd : Option Nat) (fn : FuncId) (ro : Option Nat) (a : Act) (k : List Item) (cs cs0 : List Frame) (w : World), RSt Κ B G σ s rd fn ro a k cs w → Fresh σ s.nx s'.nx → Fin' Κ P B G σ s rd fn (lone (mkF s.fr ro a k) (cs ++ cs0) w) cs0 w v s'
structure Did (P : Program) (G : Nat) (ops : Array Oper) (i : Nat) (recs us : List Rec) (s : St) (o : Oper) (recs' : List Rec) (s' : St) (e : Ent) : Prop where
 recs : recs' = ⟨i, e.ft, s.nx, e.names⟩ :: recs
 nx : e.nx = s.nx
 nx' : e.nx' = s'.nx
 hp : s'.hp = app e.dl s.hp
 fr : finishA s.fr e.v = some s'.fr
 cs : s'.cs = s.cs
 beside : besideA ops o e.names us = true
 view : ∀ x b, e.V.get x = some b → s.hp.get x = some b ∧ x ∉ logsOf us ∧ ∀ l, e.ft = some l → x ∈ l
 keeps : Keeps s s'
 exec : ∀ B, ExecOk P B G ops s.fr.sz s.fr.tm.get i o e
section
variable {P : Program} {G : Nat} {X : FuncId → Option ExtK} {ops : Array Oper} {i : Nat} {recs us recs' : List Rec} {s s' : St} {o : Oper}

theorem finF_eq (fr : Fr) (v : AV) : finishA fr v = (match finF fr.sz fr.tm fr.todo v with
  | some (tm, todo) => some { fr with tm, todo }
  | none => none) := by
 obtain ⟨fn, sz, tm, todo, df, rd, ret⟩ := fr
 cases todo with
 | nil => rfl
 | cons a t =>
  cases a with
  | inReg ops k r => cases r with
   | nil => rfl
   | cons o r =>
    show _ = (match finR o.dst sz tm (.inReg ops (k + 1) r :: t) v with
     | some (tm, todo) => some (⟨fn, sz, tm, todo, df, rd, ret⟩ : Fr)
     | none => none)
    simp only [finishA]
    cases o.dst with
    | none => rfl
    | some d =>
     show _ = (match cond (Nat.blt d sz) (some (tm.set d (some v), AI.inReg ops (k + 1) r :: t)) none with
      | some (tm, todo) => some (⟨fn, sz, tm, todo, df, rd, ret⟩ : Fr)
      | none => none)
     dsimp only
     cases Nat.blt d sz <;> rfl
  | _ => rfl
theorem drawPut_eq (ft : Option (List Nat)) (dl : List (Nat × Option Blk)) (nx : Nat) (v : AV) : drawPut ops i recs us s o ft dl nx v = (bif besideA ops o (dl.map (·.1)) us then
  match finishA s.fr v with
  | some fr => some (⟨i, ft, s.nx, dl.map (·.1)⟩ :: recs, { s.turn dl nx with fr })
  | none => none
 else none) := by
 unfold drawPut
 rw [finF_eq]
 obtain ⟨⟨fn, sz, tm, todo, df, rd, ret⟩, cs, hp, nx0, lb, wl⟩ := s
 simp only
 cases besideA ops o (dl.map (·.1)) us with
 | false => rfl
 | true =>
  simp only [cond_true]
  cases finF sz tm todo v with
  | none => rfl
  | some q => obtain ⟨tm', todo'⟩ := q; cases dl <;> rfl
theorem drawPut_did {ft : Option (List Nat)} {dl : List (Nat × Option Blk)} {nx : Nat} {v : AV} (h : drawPut ops i recs us s o ft dl nx v = some (recs', s')) (V : Tr Blk)
  (hl : Low s.hp s.nx) (hg : s.nx ≤ nx ∧ ∀ p ∈ dl, p.1 < nx) (hV : ∀ x b, V.get x = some b → s.hp.get x = some b ∧ x ∉ logsOf us ∧ ∀ l, ft = some l → x ∈ l)
  (hex : ∀ B, ExecOk P B G ops s.fr.sz s.fr.tm.get i o ⟨V, dl, v, s.nx, nx, ft⟩) : ∃ e, Did P G ops i recs us s o recs' s' e := by
 rw [drawPut_eq] at h
 rcases cond_eq_some h with ⟨hb, h'⟩ | ⟨_, h'⟩
 ·split at h'
  ·rename_i fr hf
   simp only [Option.some.injEq, Prod.mk.injEq] at h'
   obtain ⟨rfl, rfl⟩ := h'
   exact ⟨⟨V, dl, v, s.nx, nx, ft⟩, rfl, rfl, rfl, rfl, hf, rfl, hb, hV, .turn hl hg.1 hg.2 rfl rfl rfl rfl, hex⟩
  ·cases h'
 ·cases h'
theorem low_part {hp V : Tr Blk} {nx : Nat} (hl : Low hp nx) (hV : ∀ x b, V.get x = some b → hp.get x = some b) : Low V nx := fun x hx => by
 cases h : V.get x with
 | none => rfl
 | some b => have := hl x hx; rw [hV x b h] at this; cases this
theorem without_view {us : List Rec} {s : St} : ∀ x b, (without (logsOf us) s.hp).get x = some b → s.hp.get x = some b ∧ x ∉ logsOf us ∧ ∀ l, (none : Option (List Nat)) = some l → x ∈ l := by
 intro x b h
 rw [without_get] at h
 split at h
 ·cases h
 ·rename_i hn; exact ⟨h, hn, fun l hl => by cases hl⟩
theorem drawCall_did {runC : St → Option (AV × St)} (hrun : RunOk P G runC) {fr' : Fr} (h : drawCall runC ops i recs us s o fr' = some (recs', s')) (hl : Low s.hp s.nx) (hret : fr'.ret = false)
  (hent : ∀ (B : Nat) (σ : Sg) (w : World) (a : Act) (tm' : Tr AV), RT σ s.fr.sz tm' a.tmps → (∀ t, t ∈ o.looksAt ops → tm'.get t = s.fr.tm.get t) → Rel B G σ (without (logsOf us) s.hp) w → B ≤ w.heap.size →
   ∀ (b : Frame) (rest : List Nat) (K : List Item) (cs : List Frame), ∃ ro a' k', RF [] σ fr' ro a' k' ∧
    step P (lone (b.atR a (.inRegion ops (i :: rest) :: K)) cs w) = .next (lone ((bF fr'.fn ro).atR a' k') (b.atR a (.inRegion ops (i :: rest) :: K) :: cs) w))
  (ho : ops[i]? = some o) : ∃ e, Did P G ops i recs us s o recs' s' e := by
 unfold drawCall at h
 split at h
 ·rename_i v s1 hr
  obtain ⟨hv, h⟩ : isStopV v = false ∧ drawPut ops i recs us s o none (changes s1.hp (uniq s1.wl ++ fromTo s.nx (s1.nx - s.nx))) s1.nx v = some (recs', s') := by
   rcases cond_eq_some h with ⟨_, h'⟩ | h'
   ·cases h'
   ·exact h'
  have hlow : Low (without (logsOf us) s.hp) s.nx := low_part hl fun x b hx => (without_view x b hx).1
  obtain ⟨hk, hends⟩ := hrun _ _ _ hr hlow
  have hk1 : s.nx ≤ s1.nx := hk.le
  have hwl : ∀ x ∈ uniq s1.wl, x < s.nx := fun x hx => by
   rcases hk.wlb x (uniq_mem.1 hx) with h1 | h1
   ·cases h1
   ·exact h1
  have hnames : ∀ x, x ∈ uniq s1.wl ++ fromTo s.nx (s1.nx - s.nx) → x < s1.nx := by
   intro x hx
   rcases List.mem_append.1 hx with h1 | h1
   ·have := hwl x h1; omega
   ·have := fromTo_iff.1 h1; omega
  have happ : ∀ x, (app (changes s1.hp (uniq s1.wl ++ fromTo s.nx (s1.nx - s.nx))) (without (logsOf us) s.hp)).get x = s1.hp.get x := by
   intro x
   rw [app_get, changes_look]
   by_cases hx : x ∈ uniq s1.wl ++ fromTo s.nx (s1.nx - s.nx)
   ·rw [if_pos hx]
   ·rw [if_neg hx]
    simp only
    rcases Nat.lt_or_ge x s.nx with h1 | h1
    ·exact (hk.same x h1 fun hm => hx (List.mem_append_left _ (uniq_mem.2 hm))).symm
    ·have h2 : s1.nx ≤ x := by
      rcases Nat.lt_or_ge x s1.nx with h3 | h3
      ·exact absurd (List.mem_append_right _ (fromTo_iff.2 ⟨h1, by omega⟩)) hx
      ·exact h3
     rw [hlow x h1, hk.low x h2]
  refine drawPut_did h (without (logsOf us) s.hp) hl ⟨hk1, fun p hp => hnames p.1 (by rw [← changes_names (hp := s1.hp) (l := uniq s1.wl ++ fromTo s.nx (s1.nx - s.nx))]; exact List.mem_map_of_mem hp)⟩ without_view ?_
  intro B σ w a tm' ht hag hrel hB hf b rest K cs
  obtain ⟨ro, a', k', h1, h2⟩ := hent B σ w a tm' ht hag hrel hB b rest K cs
  have hst : RSt [] B G σ { fr := fr', cs := [], hp := without (logsOf us) s.hp, nx := s.nx, lb := s.nx, wl := [] } fr'.rd fr'.fn ro a' k' [] w := ⟨h1, .nil, hrel, hB, rfl, rfl⟩
  obtain ⟨τ, w', u, g1, g2, g3, g4, _⟩ := (hends [] B σ fr'.rd fr'.fn ro a' k' [] (b.atR a (.inRegion ops (i :: rest) :: K) :: cs) w hst hf).2 hv
  refine ⟨τ, w', u, ?_, g1, g2.congr happ, g3.congr (fun _ => rfl) happ⟩
  have := g4 _ _ rfl
  rw [Frame.finish_atR, ho] at this
  rw [mkF_run (by exact hret)] at this
  exact .head h2 this
 ·cases h
theorem drawOne_did {runC : St → Option (AV × St)} (hrun : RunOk P G runC) (hN : NoNum P) (hX : XOk P X) (h : drawOne P G X runC ops i recs us s o = some (recs', s')) (hl : Low s.hp s.nx) (ho : ops[i]? = some o) :
  ∃ e, Did P G ops i recs us s o recs' s' e := by
 have looks : ∀ {tm' : Tr AV}, (∀ t, t ∈ o.looksAt ops → tm'.get t = s.fr.tm.get t) → ∀ x ∈ o.op.operands, ev G tm' x = ev G s.fr.tm x := fun h => ev_congr h
 unfold drawOne at h
 split at h
 ·cases h
 ·rename_i hw
  refine drawPut_did h .lf hl ⟨Nat.le_refl _, by simp⟩ (fun x b hx => by simp [Tr.get_lf] at hx) ?_
  intro B σ w a tm' ht hag hrel hB hf b rest K cs
  refine ⟨σ, w, undef, .one ?_, .tup [] [] rfl (by simp), hrel, .refl ..⟩
  have := stepR_op_skip (P := P) (b := b) (a := a) (k := K) (cs := cs) (w := w) (ops := ops) (i := i) (rest := rest) (by rw [ho]; simp [wanted_ok ht (by rw [wanted_congr hag]; exact hw)])
  rw [ho] at this; exact this
 ·rename_i hw
  have want : ∀ {σ : Sg} {a : Act} {tm' : Tr AV}, RT σ s.fr.sz tm' a.tmps → (∀ t, t ∈ o.looksAt ops → tm'.get t = s.fr.tm.get t) → Region.wanted o (yielded ops a.tmps) = true := fun ht hag => wanted_ok ht (by rw [wanted_congr hag]; exact hw)
  split at h
  ·rename_i r hr
   have hview : ∀ x b, (restrictA s.hp (logsOf us) (footO G s.fr.tm o) .lf).get x = some b → s.hp.get x = some b ∧ x ∉ logsOf us ∧ ∀ l, some (footO G s.fr.tm o) = some l → x ∈ l := by
    intro x b hx
    rcases restrictA_get hx with ⟨h1, h2, h3⟩ | h1
    ·exact ⟨h3, h2, fun l e => by cases e; exact h1⟩
    ·simp [Tr.get_lf] at h1
   have hlow := low_part hl fun x b hx => (hview x b hx).1
   refine drawPut_did h _ hl (aop_good hlow hr) hview ?_
   intro B σ w a tm' ht hag hrel hB hf b rest K cs
   have hr' : aop P G tm' (restrictA s.hp (logsOf us) (footO G s.fr.tm o) .lf) s.nx o = some r := by rw [aop_congr o (looks hag)]; exact hr
   obtain ⟨τ, w', v, h1, h2, h3, h4⟩ := aop_ok hrel hB ht hr' hf
   refine ⟨τ, w', v, .one ?_, h2, h3, h4⟩
   have := step_value (P := P) (b := b) (a := a) (k := K) (cs := cs) (w := w) (w' := w') (rest := rest) ho (want ht hag) (not_defer hr) h1
   rw [Frame.finish_atR, ho] at this; exact this
  ·split at h
   ·rename_i c hop
    have hd : ∀ c', o.op ≠ .defer c' := fun c' e => by rw [hop] at e; cases e
    have callee : ∀ {tm' : Tr AV} {k : Callk}, (∀ t, t ∈ o.looksAt ops → tm'.get t = s.fr.tm.get t) → calleeA P G s.fr.tm c = some k → calleeA P G tm' c = some k := fun hag hc => by
     rw [callee_congr (fun x hx => looks hag x (by rw [hop]; simpa [Op.operands] using hx))]; exact hc
    split at h
    ·rename_i g args hc
     split at h
     ·rename_i r hr
      refine drawPut_did h .lf hl (extO_good (fun x _ => Tr.get_lf x) hr) (fun x b hx => by simp [Tr.get_lf] at hx) ?_
      intro B σ w a tm' ht hag hrel hB hf b rest K cs
      obtain ⟨g1, _⟩ := callee_ok hrel ht hop (callee hag hc)
      obtain ⟨vs, hvs, hex⟩ := g1 g args rfl
      obtain ⟨τ, w', v, h1, h2, h3, h4⟩ := extO_ok hX hrel hB hvs hr hf (b.atR a (.inRegion ops (i :: rest) :: K) :: cs)
      refine ⟨τ, w', v, ?_, h2, h3, h4⟩
      have := step_ext (P := P) (b := b) (a := a) (k := K) (cs := cs) (w := w) (w' := w') (v := v) (rest := rest) hN ho (want ht hag) hd hex h1
      rw [Frame.finish_atR, ho] at this; exact this
     ·split at h
      ·rename_i fr' hfr
       have hret : fr'.ret = false := by
        unfold enterA at hfr
        repeat' split at hfr
        all_goals first
         | cases hfr; done
         | (rcases cond_eq_some hfr with ⟨_, h'⟩ | ⟨_, h'⟩
            ·simp only [Option.some.injEq] at h'; subst h'; rfl
            ·cases h')
       refine drawCall_did hrun h hl hret ?_ ho
       intro B σ w a tm' ht hag hrel hB b rest K cs
       obtain ⟨g1, _⟩ := callee_ok hrel ht hop (callee hag hc)
       obtain ⟨vs, hvs, hex⟩ := g1 g args rfl
       obtain ⟨fnn, cc, a', h1, h2, h3, h4, h5, h6, h7⟩ := enter_ok hfr hvs
       refine ⟨none, a', _, h4, ?_⟩
       rw [← h3]
       exact step_enter ho (want ht hag) hd (by rw [hex]; exact run_callFunc_enter hN h1 h2 vs)
      ·cases h
    ·rename_i id args hc
     split at h
     ·rename_i fr' hfr
      have hret : fr'.ret = false := by
       unfold roundA at hfr
       split at hfr
       ·rcases cond_eq_some hfr with ⟨_, h'⟩ | ⟨_, h'⟩
        ·simp only [Option.some.injEq] at h'; subst h'; rfl
        ·cases h'
       ·cases hfr
      refine drawCall_did hrun h hl hret ?_ ho
      intro B σ w a tm' ht hag hrel hB b rest K cs
      obtain ⟨_, g2⟩ := callee_ok hrel ht hop (callee hag hc)
      obtain ⟨bb, z, vs, hσ, hvs, hex⟩ := g2 id args rfl
      obtain ⟨l, f, tmps, asg, body, a', k', h1, h2, h3, h4, h5⟩ := round_ok (P := P) hrel hfr hσ hvs
      refine ⟨some bb, a', k', h3, ?_⟩
      rw [← h2]
      exact step_round ho (want ht hag) hd (by rw [hex]; exact h1)
     ·cases h
    ·cases h
   ·cases h
end
end Go.Ex
