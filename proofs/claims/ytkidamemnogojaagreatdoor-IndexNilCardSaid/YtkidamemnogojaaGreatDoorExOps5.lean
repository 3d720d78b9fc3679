/-
  The abstract machine: maps.
-/
import Derived.Test.YtkidamemnogojaaGreatDoorExOps4
set_option linter.unusedVariables false
set_option linter.unusedSimpArgs false
namespace Go.Ex

section
variable {P : Program} {B G : Nat} {σ : Sg} {hp : Tr Blk} {nx : Nat} {w : World}

theorem run_getMap {r : Nat} {es : Array MapEntry} {c : Nat} (h : w.heap[r]? = some (.map es c)) : (getObj r).run P w = .ok (.map es c) w := by simp [getObj, Sem.run, h]
theorem run_setMap {r : Nat} {es : Array MapEntry} {c : Nat} (h : w.heap[r]? = some (.map es c)) (o : Obj) : (setObj r o).run P w = .ok () { w with heap := w.heap.setIfInBounds r o } := by simp [setObj, Sem.run, h]

/-- Entries, one by one. -/
def RE (σ : Sg) (es : List (AV × AV × Nat)) (ms : List MapEntry) : Prop :=
  es.length = ms.length ∧ ∀ (i : Nat) x e, es[i]? = some x → ms[i]? = some e → Rv σ x.1 e.key ∧ Rv σ x.2.1 e.val ∧ e.born = x.2.2

theorem RE.uncons {x : AV × AV × Nat} {es : List (AV × AV × Nat)} {ms : List MapEntry} (h : RE σ (x :: es) ms) : ∃ e ms', ms = e :: ms' ∧ (Rv σ x.1 e.key ∧ Rv σ x.2.1 e.val ∧ e.born = x.2.2) ∧ RE σ es ms' := by
  cases ms with
  | nil => have := h.1; simp at this
  | cons e ms' => exact ⟨e, ms', rfl, h.2 0 x e rfl rfl, by have := h.1; simpa using this, fun i y f hy hf => h.2 (i + 1) y f (by simpa using hy) (by simpa using hf)⟩

theorem Rel.map (hr : Rel B G σ hp w) {id : Nat} {wr : Bool} {es : List (AV × AV × Nat)} {c : Nat} (h : hp.get id = some (.map wr es c)) :
    ∃ k z a, σ id = some (k, z) ∧ w.heap[k]? = some (.map a c) ∧ RE σ es a.toList ∧ (wr = true → B ≤ k) := by
  obtain ⟨k, z, ob, hs, hk, hro, hB⟩ := hr.blk id _ h
  cases hro with
  | map _ _ a _ hl h => exact ⟨k, z, a, hs, hk, ⟨by simpa using hl, fun i x e hx he => h i x e hx (by simpa using he)⟩, hB⟩

theorem keyEq_ok {kind : TypeDesc} {a b : AV} {ca cb : Value} {r : Bool} (h : keyEq kind a b = some r) (ha : Rv σ a ca) (hb : Rv σ b cb) : Instr.sameNow kind ca cb = some r := by
  unfold keyEq at h
  split at h
  · rw [ha.inv_int, hb.inv_int]
    rcases cond_eq_some h with ⟨hk, h⟩ | ⟨_, h⟩
    · simp at h; subst h; rw [eqK_iff hk, eqI_eq]; simp [Instr.sameNow]
    · cases h
  · obtain ⟨s, rfl, rfl⟩ := ha.inv_str; obtain ⟨u, rfl, rfl⟩ := hb.inv_str
    simp at h; subst h; simp [Instr.sameNow, ba_beq]
  · rw [ha.inv_bool, hb.inv_bool]; simp at h; subst h; simp [Instr.sameNow]
  · cases h

theorem findA_ok {kind : TypeDesc} {k : AV} {ck : Value} (hk : Rv σ k ck) : ∀ {es : List (AV × AV × Nat)} {ms : List MapEntry} {i : Nat} {r : Option (Nat × AV × Nat)}, RE σ es ms → findA kind k es i = some r →
    (r = none → Instr.findNow kind ck ms i = some none) ∧
    (∀ j v b, r = some (j, v, b) → ∃ x e, i ≤ j ∧ es[j - i]? = some x ∧ ms[j - i]? = some e ∧ x.2.1 = v ∧ x.2.2 = b ∧ keyEq kind k x.1 = some true ∧ Instr.findNow kind ck ms i = some (some (j, e.val))) := by
  intro es
  induction es with
  | nil =>
    intro ms i r h hf
    have : ms = [] := List.eq_nil_of_length_eq_zero (by simpa using h.1.symm)
    subst this
    simp [findA] at hf; subst hf
    exact ⟨fun _ => rfl, fun j v b e => by cases e⟩
  | cons x es ih =>
    intro ms i r h hf
    obtain ⟨e, ms', rfl, ⟨h1, h2, h3⟩, h4⟩ := h.uncons
    obtain ⟨k', v', b'⟩ := x
    simp only [findA] at hf
    split at hf
    · rename_i hq
      simp only [Option.some.injEq] at hf; subst hf
      refine ⟨fun e => (by cases e), fun j v b e' => ?_⟩
      simp only [Option.some.injEq, Prod.mk.injEq] at e'
      obtain ⟨rfl, rfl, rfl⟩ := e'
      exact ⟨(k', v', b'), e, Nat.le_refl _, by simp, by simp, rfl, rfl, hq, by simp [Instr.findNow, keyEq_ok hq hk h1]⟩
    · rename_i hq
      obtain ⟨g1, g2⟩ := ih h4 hf
      refine ⟨fun e' => by simp [Instr.findNow, keyEq_ok hq hk h1, g1 e'], fun j v b e' => ?_⟩
      obtain ⟨x, f, k1, k2, k3, k4, k5, k6, k7⟩ := g2 j v b e'
      refine ⟨x, f, by omega, ?_, ?_, k4, k5, k6, by simp [Instr.findNow, keyEq_ok hq hk h1, k7]⟩
      · rw [show j - i = (j - (i + 1)) + 1 from by omega]; simpa using k2
      · rw [show j - i = (j - (i + 1)) + 1 from by omega]; simpa using k3
    · cases hf

theorem run_findKey {kt : TypeId} {kind : TypeDesc} (hu : P.underlying kt = some kind) {ck : Value} {ms : List MapEntry} {r : Option (Nat × Value)} (h : Instr.findNow kind ck ms 0 = some r) :
    (Instr.findKey kt ck ms).run P w = .ok r w := by
  simp [Instr.findKey, run_und hu, h]
theorem run_checkKey {kt : TypeId} {kind : TypeDesc} (hu : P.underlying kt = some kind) {k : AV} {ck : Value} (h : plainKey kind k = true) (hk : Rv σ k ck) (e : Bool) (d : Nat) :
    (Instr.checkKey e (d + 1) kt ck).run P w = .ok () w := by
  unfold plainKey at h
  split at h
  · rw [hk.inv_int]; simp [Instr.checkKey, run_und hu]
  · obtain ⟨s, rfl, _⟩ := hk.inv_str; simp [Instr.checkKey, run_und hu]
  · rw [hk.inv_bool]; simp [Instr.checkKey, run_und hu]
  · cases h

theorem keyStays {kind : TypeDesc} {k x : AV} {ck cx : Value} (h : keyEq kind k x = some true) (hk : Rv σ k ck) (hx : Rv σ x cx) : (Instr.keyThatStays cx ck).run P w = .ok ck w := by
  have : Instr.sameBits 10000 cx ck = true := by
    unfold keyEq at h
    split at h
    · rw [hk.inv_int, hx.inv_int]
      rcases cond_eq_some h with ⟨hb, h⟩ | ⟨_, h⟩
      · simp only [Option.some.injEq, eqI_eq, beq_iff_eq] at h
        subst h; rw [eqK_iff hb]
        show Instr.sameBits (9999 + 1) _ _ = true
        simp [Instr.sameBits]
      · cases h
    · obtain ⟨s, rfl, rfl⟩ := hk.inv_str; obtain ⟨u, rfl, rfl⟩ := hx.inv_str
      simp only [Option.some.injEq] at h
      show Instr.sameBits (9999 + 1) _ _ = true
      rw [← ba_beq] at h
      have hsu : s = u := by
        have := h; rw [ba_beq, eqS_eq] at this; exact ofBA_inj (by simpa using this)
      subst hsu
      simp [Instr.sameBits, h]
    · rw [hk.inv_bool, hx.inv_bool]
      simp only [Option.some.injEq, beq_iff_eq] at h
      subst h
      show Instr.sameBits (9999 + 1) _ _ = true
      simp [Instr.sameBits]
    · cases h
  simp [Instr.keyThatStays, this]

theorem entriesA_ok (hr : Rel B G σ hp w) {m : AV} {cm : Value} {es : List (AV × AV × Nat)} (h : entriesA hp m = some es) (hm : Rv σ m cm) :
    (cm = .map none ∧ es = []) ∨ ∃ k a c, cm = .map (some k) ∧ w.heap[k]? = some (.map a c) ∧ RE σ es a.toList := by
  unfold entriesA at h
  split at h
  · rw [hm.inv_nilm]; simp at h; subst h; exact .inl ⟨rfl, rfl⟩
  · rename_i id
    split at h
    · rename_i wr es' c hg
      simp only [Option.some.injEq] at h; subst h
      obtain ⟨b, z, hs, rfl⟩ := hm.inv_map
      obtain ⟨k, z', a, hs', hk, he, _⟩ := hr.map hg
      rw [hs] at hs'; simp at hs'; obtain ⟨rfl, rfl⟩ := hs'
      exact .inr ⟨_, a, c, rfl, hk, he⟩
    · cases h
  · cases h

theorem lookup_ok (hr : Rel B G σ hp w) {t : TypeId} {m k : AV} {cm ck : Value} {ok : Bool} {r : R} (h : doLookup P hp nx t m k ok = some r) (hm : Rv σ m cm) (hk : Rv σ k ck) : OkV P B G σ hp nx w (Instr.lookup t cm ck ok) r := by
  unfold doLookup at h
  split at h
  · rename_i kt et hu
    split at h
    · rename_i kind es z hkind hes hz
      rcases cond_eq_some h with ⟨hpk, h⟩ | ⟨_, h⟩
      · obtain ⟨i, zv, hi, hz1, hz2⟩ := zeroA_spec hz
        have hzr : Rv σ z zv := ofVal_ok hz2
        have chk : ∀ e, (Instr.checkKey e 10000 kt ck).run P w = .ok () w := fun e => run_checkKey hkind hpk hk e 9999
        have fin : ∀ (v : AV) (cv : Value) (b : Bool), Rv σ v cv → Rv σ (bif ok then .tup [v, .bool b] else v) (if ok = true then .tuple #[cv, .bool b] else cv) := by
          intro v cv b hv
          cases ok
          · exact hv
          · exact .tup [v, .bool b] [cv, .bool b] rfl (RL.cons hv (.cons (.bool b) .nil)).2
        rcases entriesA_ok hr hes hm with ⟨rfl, rfl⟩ | ⟨kk, a, c, rfl, hh, he⟩
        · simp only [findA] at h
          refine OkV.rv hr h ⟨_, ?_, fin z zv false hzr⟩
          have hfk : (Instr.findKey kt ck []).run P w = .ok none w := run_findKey hkind rfl
          simp only [Instr.lookup, Sem.run_bind, run_und hu, Result.andThen_ok, Sem.run_pure, chk, hfk, run_zero hi hz1]
        · split at h
          · rename_i j v b hf
            refine OkV.rv hr h ?_
            obtain ⟨x, e, h1, h2, h3, h4, h5, h6, h7⟩ := (findA_ok hk he hf).2 j v b rfl
            have hfk := run_findKey (P := P) (w := w) hkind h7
            have hv : Rv σ v e.val := h4 ▸ (he.2 _ _ _ h2 h3).2.1
            refine ⟨_, ?_, fin v e.val true hv⟩
            simp only [Instr.lookup, Sem.run_bind, run_und hu, Result.andThen_ok, Sem.run_pure, run_getMap hh, chk, hfk]
          · rename_i hf
            refine OkV.rv hr h ⟨_, ?_, fin z zv false hzr⟩
            have hfk := run_findKey (P := P) (w := w) hkind ((findA_ok hk he hf).1 rfl)
            simp only [Instr.lookup, Sem.run_bind, run_und hu, Result.andThen_ok, Sem.run_pure, run_getMap hh, chk, hfk, run_zero hi hz1]
          · cases h
      · cases h
    · cases h
  · cases h

/-! ### Turning entries -/
theorem setE_length : ∀ (n : Nat) (f : AV × AV × Nat → AV × AV × Nat) (es : List (AV × AV × Nat)), (setE n f es).length = es.length := by
  intro n
  induction n with
  | zero => intro f es; cases es <;> rfl
  | succ n ih => intro f es; cases es with
    | nil => rfl
    | cons e es => simp [setE, ih]
theorem setE_get : ∀ (n : Nat) (f : AV × AV × Nat → AV × AV × Nat) (es : List (AV × AV × Nat)) (i : Nat), (setE n f es)[i]? = if i = n then (es[i]?).map f else es[i]? := by
  intro n
  induction n with
  | zero => intro f es i; cases es with
    | nil => simp [setE]
    | cons e es => cases i <;> simp [setE]
  | succ n ih => intro f es i; cases es with
    | nil => simp [setE]
    | cons e es => cases i with
      | zero => simp [setE]
      | succ i => simp [setE, ih]
theorem delE_eq : ∀ (n : Nat) (es : List (AV × AV × Nat)), delE n es = es.eraseIdx n := by
  intro n
  induction n with
  | zero => intro es; cases es <;> rfl
  | succ n ih => intro es; cases es with
    | nil => rfl
    | cons e es => simp [delE, ih]

theorem RE.setE {es : List (AV × AV × Nat)} {a : Array MapEntry} (h : RE σ es a.toList) (n : Nat) (f : AV × AV × Nat → AV × AV × Nat) (g : MapEntry → MapEntry)
    (hfg : ∀ x e, es[n]? = some x → a[n]? = some e → Rv σ (f x).1 (g e).key ∧ Rv σ (f x).2.1 (g e).val ∧ (g e).born = (f x).2.2) : RE σ (Ex.setE n f es) (a.modify n g).toList := by
  refine ⟨by rw [setE_length]; simpa using h.1, fun i x e hx he => ?_⟩
  rw [setE_get] at hx
  rw [Array.getElem?_toList, Array.getElem?_modify] at he
  by_cases hi : i = n
  · subst hi
    rw [if_pos rfl] at hx
    simp only [if_true, Option.map_eq_some_iff] at hx he
    obtain ⟨y, hy, rfl⟩ := hx
    obtain ⟨q, hq, rfl⟩ := he
    exact hfg y q hy hq
  · rw [if_neg hi] at hx
    rw [if_neg (Ne.symm hi)] at he
    exact h.2 i x e hx (by simpa using he)
theorem RE.push {es : List (AV × AV × Nat)} {a : Array MapEntry} (h : RE σ es a.toList) {x : AV × AV × Nat} {e : MapEntry} (hx : Rv σ x.1 e.key ∧ Rv σ x.2.1 e.val ∧ e.born = x.2.2) : RE σ (es ++ [x]) (a.push e).toList := by
  have hl := h.1
  refine ⟨by simp [hl], fun i y f hy hf => ?_⟩
  rw [Array.toList_push] at hf
  by_cases hi : i < es.length
  · rw [List.getElem?_append_left hi] at hy
    rw [List.getElem?_append_left (by omega)] at hf
    exact h.2 i y f hy hf
  · rw [List.getElem?_append_right (by omega)] at hy
    rw [List.getElem?_append_right (by omega)] at hf
    rw [hl] at hy
    cases hq : i - a.toList.length with
    | zero => rw [hq] at hy hf; simp at hy hf; subst hy; subst hf; exact hx
    | succ m => rw [hq] at hy; simp at hy
theorem RE.erase {es : List (AV × AV × Nat)} {a : Array MapEntry} (h : RE σ es a.toList) (n : Nat) : RE σ (es.eraseIdx n) (a.eraseIdxIfInBounds n).toList := by
  have ht : (a.eraseIdxIfInBounds n).toList = a.toList.eraseIdx n := by simp [Array.toList_eraseIdxIfInBounds]
  rw [ht]
  have hl := h.1
  refine ⟨by simp only [List.length_eraseIdx, hl], fun i x e hx he => ?_⟩
  rw [List.getElem?_eraseIdx] at hx he
  split at hx
  · rename_i hi; rw [if_pos hi] at he; exact h.2 i x e hx he
  · rename_i hi; rw [if_neg hi] at he; exact h.2 (i + 1) x e hx he

/-- A map's entries turn. -/
theorem map_turn (hr : Rel B G σ hp w) {id k z : Nat} {es es' : List (AV × AV × Nat)} {a a' : Array MapEntry} {c c' : Nat} (hg : hp.get id = some (.map true es c)) (hs : σ id = some (k, z)) (hh : w.heap[k]? = some (.map a c)) (he : RE σ es' a'.toList) :
    Rel B G σ (hp.set id (some (.map true es' c'))) { w with heap := w.heap.setIfInBounds k (.map a' c') } ∧ Ext σ σ hp (hp.set id (some (.map true es' c'))) nx nx w { w with heap := w.heap.setIfInBounds k (.map a' c') } := by
  have hlt : k < w.heap.size := (Array.getElem?_eq_some_iff.1 hh).1
  refine hr.set (w' := { w with heap := w.heap.setIfInBounds k (.map a' c') }) hg rfl hs (o' := .map a' c') (by simp [hlt]) (.map true es' a' c' (by simpa using he.1) fun i x e hx hee => he.2 i x e hx (by simpa using hee)) rfl (by simp) (fun j hj => by simp [Array.getElem?_setIfInBounds_ne (Ne.symm hj)]) rfl rfl rfl nx

theorem mapSet_ok (hr : Rel B G σ hp w) {t : TypeId} {m k v : AV} {cm ck cv : Value} {r : R} (h : doMapSet P hp nx t m k v = some r) (hm : Rv σ m cm) (hk : Rv σ k ck) (hv : Rv σ v cv) : OkU P B G σ hp nx w (Instr.mapUpdate t cm ck cv) r := by
  unfold doMapSet at h
  split at h
  · rename_i kt et id hu
    split at h
    · rename_i kind es c hkind hg
      rcases cond_eq_some h with ⟨hpk, h⟩ | ⟨_, h⟩
      · have chk : ∀ e, (Instr.checkKey e 10000 kt ck).run P w = .ok () w := fun e => run_checkKey hkind hpk hk e 9999
        obtain ⟨b, z, hs, rfl⟩ := hm.inv_map
        obtain ⟨kk, z', a, hs', hh, he, _⟩ := hr.map hg
        rw [hs] at hs'; simp at hs'; obtain ⟨rfl, rfl⟩ := hs'
        split at h
        · rename_i j v' b' hf
          simp only [rset, Option.some.injEq] at h; subst h
          obtain ⟨x, e, h1, h2, h3, h4, h5, h6, h7⟩ := (findA_ok hk he hf).2 j v' b' rfl
          simp only [Nat.sub_zero] at h2 h3
          have hfk := run_findKey (P := P) (w := w) hkind h7
          have hks := keyStays (P := P) (w := w) h6 hk (he.2 _ _ _ h2 h3).1
          have hj : a[j]? = some e := by simpa using h3
          obtain ⟨g1, g2⟩ := map_turn (nx := nx) (c' := c) (a' := a.modify j fun e => { e with key := ck, val := cv }) (es' := setE j (fun e => (k, v, e.2.2)) es) hr hg hs hh
            (he.setE j (fun e => (k, v, e.2.2)) (fun e => { e with key := ck, val := cv }) fun x e hx hee => ⟨hk, hv, (he.2 _ x e hx (by simpa using hee)).2.2⟩)
          refine ⟨σ, _, ?_, rfl, g1, g2⟩
          simp only [Instr.mapUpdate, Sem.run_bind, run_und hu, Result.andThen_ok, run_getMap hh, chk, hfk, hj, Option.map_some, Option.getD_some, hks, run_setMap hh]
        · rename_i hf
          simp only [rset, Option.some.injEq] at h; subst h
          have hfk := run_findKey (P := P) (w := w) hkind ((findA_ok hk he hf).1 rfl)
          obtain ⟨g1, g2⟩ := map_turn (nx := nx) (c' := c + 1) (a' := a.push { key := ck, val := cv, born := c }) (es' := es ++ [(k, v, c)]) hr hg hs hh (he.push ⟨hk, hv, rfl⟩)
          refine ⟨σ, _, ?_, rfl, g1, g2⟩
          simp only [Instr.mapUpdate, Sem.run_bind, run_und hu, Result.andThen_ok, run_getMap hh, chk, hfk, run_setMap hh]
        · cases h
      · cases h
    · cases h
  · cases h

theorem mapEntry_ok (hr : Rel B G σ hp w) {t : TypeId} {m k : AV} {cm ck : Value} {r : R} (h : doMapEntry P hp nx t m k = some r) (hm : Rv σ m cm) (hk : Rv σ k ck) : OkV P B G σ hp nx w (Instr.mapEntry t cm ck) r := by
  unfold doMapEntry at h
  split at h
  · rename_i kt et id hu
    split at h
    · rename_i kind es c z hkind hg hz
      rcases cond_eq_some h with ⟨hpk, h⟩ | ⟨_, h⟩
      · have chk : ∀ e, (Instr.checkKey e 10000 kt ck).run P w = .ok () w := fun e => run_checkKey hkind hpk hk e 9999
        obtain ⟨i, zv, hi, hz1, hz2⟩ := zeroA_spec hz
        have hzr : Rv σ z zv := ofVal_ok hz2
        obtain ⟨b, z', hs, rfl⟩ := hm.inv_map
        obtain ⟨kk, z'', a, hs', hh, he, _⟩ := hr.map hg
        rw [hs] at hs'; simp at hs'; obtain ⟨rfl, rfl⟩ := hs'
        split at h
        · rename_i j v' b' hf
          simp only [rset, Option.some.injEq] at h; subst h
          obtain ⟨x, e, h1, h2, h3, h4, h5, h6, h7⟩ := (findA_ok hk he hf).2 j v' b' rfl
          simp only [Nat.sub_zero] at h2 h3
          have hfk := run_findKey (P := P) (w := w) hkind h7
          have hks := keyStays (P := P) (w := w) h6 hk (he.2 _ _ _ h2 h3).1
          have hj : a[j]? = some e := by simpa using h3
          obtain ⟨q1, q2, q3⟩ := he.2 _ _ _ h2 h3
          obtain ⟨g1, g2⟩ := map_turn (nx := nx) (c' := c) (a' := a.modify j fun e => { e with key := ck }) (es' := setE j (fun e => (k, e.2)) es) hr hg hs hh
            (he.setE j (fun e => (k, e.2)) (fun e => { e with key := ck }) fun x e hx hee => ⟨hk, (he.2 _ x e hx (by simpa using hee)).2.1, (he.2 _ x e hx (by simpa using hee)).2.2⟩)
          refine ⟨σ, _, .tuple #[e.val, goInt e.born], ?_, ?_, g1, g2⟩
          · simp only [Instr.mapEntry, Sem.run_bind, run_und hu, Result.andThen_ok, run_getMap hh, chk, hfk, hj, Option.map_some, Option.getD_some, hks, run_setMap hh, Sem.run_pure]
          · rw [← h4, ← h5, ← q3]
            exact .tup _ [e.val, goInt e.born] rfl (RL.cons q2 (.cons (.int _ _) .nil)).2
        · rename_i hf
          simp only [rset, Option.some.injEq] at h; subst h
          have hfk := run_findKey (P := P) (w := w) hkind ((findA_ok hk he hf).1 rfl)
          obtain ⟨g1, g2⟩ := map_turn (nx := nx) (c' := c + 1) (a' := a.push { key := ck, val := zv, born := c }) (es' := es ++ [(k, z, c)]) hr hg hs hh (he.push ⟨hk, hzr, rfl⟩)
          refine ⟨σ, _, .tuple #[zv, goInt c], ?_, .tup _ [zv, goInt c] rfl (RL.cons hzr (.cons (.int _ _) .nil)).2, g1, g2⟩
          simp only [Instr.mapEntry, Sem.run_bind, run_und hu, Result.andThen_ok, run_getMap hh, chk, hfk, run_zero hi hz1, run_setMap hh, Sem.run_pure]
        · cases h
      · cases h
    · cases h
  · cases h

theorem bornE_ok (b : Nat) : ∀ {es : List (AV × AV × Nat)} {ms : List MapEntry} {i j : Nat}, RE σ es ms → bornE b es i = some j → i ≤ j ∧ ms.findIdx? (fun e => (e.born : Int) == Int.ofNat b) = some (j - i) := by
  intro es
  induction es with
  | nil => intro ms i j _ h; simp [bornE] at h
  | cons x es ih =>
    intro ms i j h hb
    obtain ⟨e, ms', rfl, ⟨_, _, h3⟩, h4⟩ := h.uncons
    simp only [bornE] at hb
    rcases cond_eq_some hb with ⟨hq, hb⟩ | ⟨hq, hb⟩
    · simp only [Option.some.injEq] at hb; subst hb
      have := beq_iff.1 hq
      refine ⟨Nat.le_refl _, ?_⟩
      rw [List.findIdx?_cons]; simp [h3, this]
    · have hne := beq_iff_f.1 hq
      obtain ⟨g1, g2⟩ := ih h4 hb
      refine ⟨by omega, ?_⟩
      rw [List.findIdx?_cons]
      have : ((e.born : Int) == Int.ofNat b) = false := by rw [h3]; simpa using fun e => hne (by omega)
      rw [this, g2]; simp; omega

theorem entryStore_ok (hr : Rel B G σ hp w) {t : TypeId} {m s v : AV} {cm cs cv : Value} {r : R} (h : doEntryStore hp nx m s v = some r) (hm : Rv σ m cm) (hs' : Rv σ s cs) (hv : Rv σ v cv) : OkU P B G σ hp nx w (Instr.entryStore t cm cs cv) r := by
  unfold doEntryStore at h
  split at h
  · rename_i id k b
    split at h
    · rename_i es c hg
      split at h
      · rename_i i hi
        simp only [rset, Option.some.injEq] at h; subst h
        rw [hs'.inv_int]
        obtain ⟨bb, z, hs, rfl⟩ := hm.inv_map
        obtain ⟨kk, z', a, hs2, hh, he, _⟩ := hr.map hg
        rw [hs] at hs2; simp at hs2; obtain ⟨rfl, rfl⟩ := hs2
        obtain ⟨_, g⟩ := bornE_ok b he hi
        rw [Nat.sub_zero] at g
        have gf : a.findIdx? (fun e => (e.born : Int) == Int.ofNat b) = some i := by
          rw [show a = a.toList.toArray from by simp, List.findIdx?_toArray]; exact g
        obtain ⟨g1, g2⟩ := map_turn (nx := nx) (c' := c) (a' := a.modify i fun e => { e with val := cv }) (es' := setE i (fun e => (e.1, v, e.2.2)) es) hr hg hs hh
            (he.setE i (fun e => (e.1, v, e.2.2)) (fun e => { e with val := cv }) fun x e hx hee => ⟨(he.2 _ x e hx (by simpa using hee)).1, hv, (he.2 _ x e hx (by simpa using hee)).2.2⟩)
        refine ⟨σ, _, ?_, rfl, g1, g2⟩
        simp only [Instr.entryStore, Sem.run_bind, run_getMap hh, Result.andThen_ok, asInt, asIntOf, Sem.run_pure, gf, run_setMap hh]
      · cases h
    · cases h
  · cases h

theorem delete_ok (hr : Rel B G σ hp w) {t u ty : TypeId} {m k : AV} {cm ck : Value} {r : R} (h : doDelete P hp nx t m k = some r) (hm : Rv σ m cm) (hk : Rv σ k ck) : OkV P B G σ hp nx w (Builtin.delete_ #[t, u] ty #[cm, ck]) r := by
  unfold doDelete at h
  split at h
  · rename_i kt et id hu
    split at h
    · rename_i kind es c hkind hg
      rcases cond_eq_some h with ⟨hpk, h⟩ | ⟨_, h⟩
      · have chk : ∀ e, (Instr.checkKey e 10000 kt ck).run P w = .ok () w := fun e => run_checkKey hkind hpk hk e 9999
        obtain ⟨b, z, hs, rfl⟩ := hm.inv_map
        obtain ⟨kk, z', a, hs', hh, he, _⟩ := hr.map hg
        rw [hs] at hs'; simp at hs'; obtain ⟨rfl, rfl⟩ := hs'
        have hun : Rv σ unit (.tuple #[]) := .tup [] [] rfl (by simp)
        split at h
        · rename_i j v' b' hf
          simp only [rset, Option.some.injEq] at h; subst h
          obtain ⟨x, e, h1, h2, h3, h4, h5, h6, h7⟩ := (findA_ok hk he hf).2 j v' b' rfl
          have hfk := run_findKey (P := P) (w := w) hkind h7
          obtain ⟨g1, g2⟩ := map_turn (nx := nx) (c' := c) (a' := a.eraseIdxIfInBounds j) (es' := delE j es) hr hg hs hh (by rw [delE_eq]; exact he.erase j)
          refine ⟨σ, _, .tuple #[], ?_, hun, g1, g2⟩
          simp [Builtin.delete_, run_und hu, run_getMap hh, chk, hfk, run_setMap hh]
        · rename_i hf
          simp only [rset, Option.some.injEq] at h; subst h
          have hfk := run_findKey (P := P) (w := w) hkind ((findA_ok hk he hf).1 rfl)
          obtain ⟨g1, g2⟩ := map_turn (nx := nx) (c' := c) (a' := a) (es' := es) hr hg hs hh he
          refine ⟨σ, _, .tuple #[], ?_, hun, g1, g2⟩
          simp [Builtin.delete_, run_und hu, run_getMap hh, chk, hfk, run_setMap hh]
        · cases h
      · cases h
    · cases h
  · cases h

end
end Go.Ex
