/-
  The abstract machine: maps whose entries' order is not known.
-/
import Derived.Test.YtkidamemnogojaaGreatDoorExOps7
set_option linter.unusedVariables false
set_option linter.unusedSimpArgs false
namespace Go.Ex

section
variable {P : Program} {B G : Nat} {σ : Sg} {hp : Tr Blk} {nx : Nat} {w : World}

/-- Entries, one by one, without their births. -/
def RU (σ : Sg) (es : List (AV × AV)) (ms : List MapEntry) : Prop :=
  es.length = ms.length ∧ ∀ (i : Nat) x e, es[i]? = some x → ms[i]? = some e → Rv σ x.1 e.key ∧ Rv σ x.2 e.val
theorem RU.nil : RU σ [] [] := ⟨rfl, fun i x e h _ => by simp at h⟩
theorem RU.cons {x : AV × AV} {e : MapEntry} {es : List (AV × AV)} {ms : List MapEntry} (hx : Rv σ x.1 e.key ∧ Rv σ x.2 e.val) (h : RU σ es ms) : RU σ (x :: es) (e :: ms) :=
  ⟨by simp [h.1], fun i y f hy hf => by
    cases i with
    | zero => simp at hy hf; subst hy; subst hf; exact hx
    | succ i => simp at hy hf; exact h.2 i y f hy hf⟩
theorem RU.uncons {x : AV × AV} {es : List (AV × AV)} {ms : List MapEntry} (h : RU σ (x :: es) ms) : ∃ e ms', ms = e :: ms' ∧ (Rv σ x.1 e.key ∧ Rv σ x.2 e.val) ∧ RU σ es ms' := by
  cases ms with
  | nil => have := h.1; simp at this
  | cons e ms' => exact ⟨e, ms', rfl, h.2 0 x e rfl rfl, by have := h.1; simpa using this, fun i y f hy hf => h.2 (i + 1) y f (by simpa using hy) (by simpa using hf)⟩
theorem RU.of_nil {ms : List MapEntry} (h : RU σ [] ms) : ms = [] := List.eq_nil_of_length_eq_zero (by simpa using h.1.symm)
theorem RU.append {es fs : List (AV × AV)} {ms ns : List MapEntry} (h : RU σ es ms) (k : RU σ fs ns) : RU σ (es ++ fs) (ms ++ ns) := by
  induction es generalizing ms with
  | nil => rw [h.of_nil]; simpa using k
  | cons x es ih => obtain ⟨e, ms', rfl, hx, hr⟩ := h.uncons; exact .cons hx (ih hr)

theorem findU_ok {kind : TypeDesc} {k : AV} {ck : Value} (hk : Rv σ k ck) : ∀ {es : List (AV × AV)} {ms : List MapEntry} {r : Option (List (AV × AV) × (AV × AV) × List (AV × AV))}, RU σ es ms → findU kind k es = some r →
    (r = none → ∀ e, e ∈ ms → Instr.sameNow kind ck e.key = some false) ∧
    (∀ l1 y l2, r = some (l1, y, l2) → ∃ m1 e m2, ms = m1 ++ e :: m2 ∧ RU σ l1 m1 ∧ RU σ l2 m2 ∧ Rv σ y.1 e.key ∧ Rv σ y.2 e.val ∧ keyEq kind k y.1 = some true ∧ ∀ f, f ∈ m1 ++ m2 → Instr.sameNow kind ck f.key = some false) := by
  intro es
  induction es with
  | nil =>
    intro ms r h hf
    rw [h.of_nil]
    simp only [findU, Option.some.injEq] at hf; subst hf
    exact ⟨fun _ e he => by simp at he, fun _ _ _ e => by cases e⟩
  | cons x es ih =>
    intro ms r h hf
    obtain ⟨e, ms', rfl, ⟨h1, h2⟩, h4⟩ := h.uncons
    simp only [findU] at hf
    split at hf
    · rename_i hq hrec
      simp only [Option.some.injEq] at hf; subst hf
      refine ⟨fun e => (by cases e), fun l1 y l2 e' => ?_⟩
      simp only [Option.some.injEq, Prod.mk.injEq] at e'
      obtain ⟨rfl, rfl, rfl⟩ := e'
      exact ⟨[], e, ms', rfl, .nil, h4, h1, h2, hq, fun f hf => (ih h4 hrec).1 rfl f (by simpa using hf)⟩
    · rename_i hq hrec
      simp only [Option.some.injEq] at hf; subst hf
      refine ⟨fun _ f hf => ?_, fun _ _ _ e => by cases e⟩
      rcases List.mem_cons.1 hf with rfl | hf
      · exact keyEq_ok hq hk h1
      · exact (ih h4 hrec).1 rfl f hf
    · rename_i l1 y l2 hq hrec
      simp only [Option.some.injEq] at hf; subst hf
      refine ⟨fun e => (by cases e), fun l1' y' l2' e' => ?_⟩
      simp only [Option.some.injEq, Prod.mk.injEq] at e'
      obtain ⟨rfl, rfl, rfl⟩ := e'
      obtain ⟨m1, e0, m2, g1, g2, g3, g4, g5, g6, g7⟩ := (ih h4 hrec).2 _ _ _ rfl
      refine ⟨e :: m1, e0, m2, by rw [g1]; rfl, .cons ⟨h1, h2⟩ g2, g3, g4, g5, g6, fun f hf => ?_⟩
      rcases List.mem_cons.1 hf with rfl | hf
      · exact keyEq_ok hq hk h1
      · exact g7 f hf
    · cases hf

theorem findNow_none {kind : TypeDesc} {ck : Value} : ∀ {ms : List MapEntry} {i : Nat}, (∀ e, e ∈ ms → Instr.sameNow kind ck e.key = some false) → Instr.findNow kind ck ms i = some none := by
  intro ms
  induction ms with
  | nil => intro i _; rfl
  | cons e ms ih => intro i h; simp [Instr.findNow, h e (by simp), ih (i := i + 1) fun f hf => h f (by simp [hf])]
theorem findNow_some {kind : TypeDesc} {ck : Value} {e : MapEntry} {m2 : List MapEntry} (he : Instr.sameNow kind ck e.key = some true) : ∀ {m1 : List MapEntry} {i : Nat}, (∀ f, f ∈ m1 → Instr.sameNow kind ck f.key = some false) →
    Instr.findNow kind ck (m1 ++ e :: m2) i = some (some (i + m1.length, e.val)) := by
  intro m1
  induction m1 with
  | nil => intro i _; simp [Instr.findNow, he]
  | cons f m1 ih => intro i h; simp [Instr.findNow, h f (by simp), ih (i := i + 1) fun f hf => h f (by simp [hf])]; omega

theorem Rel.umap (hr : Rel B G σ hp w) {id : Nat} {wr : Bool} {es : List (AV × AV)} {c : Nat} (h : hp.get id = some (.umap wr es c)) {b z : Nat} (hσ : σ id = some (b, z)) :
    ∃ a ms, w.heap[b]? = some (.map a c) ∧ List.Perm ms a.toList ∧ RU σ es ms := by
  obtain ⟨k, z', ob, hs, hk, hro, hB⟩ := hr.blk id _ h
  rw [hσ] at hs; simp at hs; obtain ⟨rfl, rfl⟩ := hs
  cases hro with
  | umap _ _ a ms _ hp hl h => exact ⟨a, ms, hk, hp, hl, h⟩

/-- The one entry of a key, in the array's own order. -/
theorem split_perm {ms ns : List MapEntry} {m1 m2 : List MapEntry} {e : MapEntry} (hp : List.Perm ms ns) (hm : ms = m1 ++ e :: m2) : ∃ n1 n2, ns = n1 ++ e :: n2 ∧ List.Perm (m1 ++ m2) (n1 ++ n2) := by
  subst hm
  have he : e ∈ ns := hp.subset (by simp)
  obtain ⟨n1, n2, rfl⟩ := List.append_of_mem he
  refine ⟨n1, n2, rfl, ?_⟩
  have h1 : List.Perm (e :: (m1 ++ m2)) (m1 ++ e :: m2) := List.perm_middle.symm
  have h2 : List.Perm (n1 ++ e :: n2) (e :: (n1 ++ n2)) := List.perm_middle
  exact ((h1.trans hp).trans h2).cons_inv

theorem lookupU_ok (hr : Rel B G σ hp w) {t : TypeId} {m k : AV} {cm ck : Value} {ok : Bool} {r : R} (h : doLookupU P hp nx t m k ok = some r) (hm : Rv σ m cm) (hk : Rv σ k ck) : OkV P B G σ hp nx w (Instr.lookup t cm ck ok) r := by
  unfold doLookupU at h
  split at h
  · rename_i kt et id hu
    split at h
    · rename_i kind wr es c z hkind hg hz
      rcases cond_eq_some h with ⟨hpk, h⟩ | ⟨_, h⟩
      · obtain ⟨i, zv, hi, hz1, hz2⟩ := zeroA_spec hz
        have hzr : Rv σ z zv := ofVal_ok hz2
        have chk : ∀ e, (Instr.checkKey e 10000 kt ck).run P w = .ok () w := fun e => run_checkKey hkind hpk hk e 9999
        have fin : ∀ (v : AV) (cv : Value) (b : Bool), Rv σ v cv → Rv σ (bif ok then .tup [v, .bool b] else v) (if ok = true then .tuple #[cv, .bool b] else cv) := by
          intro v cv b hv
          cases ok
          · exact hv
          · exact .tup [v, .bool b] [cv, .bool b] rfl (RL.cons hv (.cons (.bool b) .nil)).2
        obtain ⟨b, zz, hs, rfl⟩ := hm.inv_map
        obtain ⟨a, ms, hh, hp, he⟩ := hr.umap hg hs
        split at h
        · rename_i l1 y l2 hf
          obtain ⟨m1, e, m2, g1, g2, g3, g4, g5, g6, g7⟩ := (findU_ok hk he hf).2 _ _ _ rfl
          obtain ⟨n1, n2, hn, hpn⟩ := split_perm hp g1
          have hfk := run_findKey (P := P) (w := w) hkind (r := some (n1.length, e.val)) (ms := a.toList) (ck := ck) (by
            rw [hn, findNow_some (keyEq_ok g6 hk g4) fun f hf => g7 f (hpn.symm.subset (by simp [hf]))]; simp)
          refine OkV.rv hr h ⟨_, ?_, fin y.2 e.val true g5⟩
          simp only [Instr.lookup, Sem.run_bind, run_und hu, Result.andThen_ok, Sem.run_pure, run_getMap hh, chk, hfk]
        · rename_i hf
          have hfk := run_findKey (P := P) (w := w) hkind (r := none) (ms := a.toList) (ck := ck) (findNow_none fun e he' => (findU_ok hk he hf).1 rfl e (hp.symm.subset he'))
          refine OkV.rv hr h ⟨_, ?_, fin z zv false hzr⟩
          simp only [Instr.lookup, Sem.run_bind, run_und hu, Result.andThen_ok, Sem.run_pure, run_getMap hh, chk, hfk, run_zero hi hz1]
        · cases h
      · cases h
    · cases h
  · cases h

/-- Its entries turn. -/
theorem umap_turn (hr : Rel B G σ hp w) {id k z : Nat} {es es' : List (AV × AV)} {a a' : Array MapEntry} {ms : List MapEntry} {c c' : Nat} (hg : hp.get id = some (.umap true es c)) (hs : σ id = some (k, z)) (hh : w.heap[k]? = some (.map a c)) (hp' : List.Perm ms a'.toList) (he : RU σ es' ms) :
    Rel B G σ (hp.set id (some (.umap true es' c'))) { w with heap := w.heap.setIfInBounds k (.map a' c') } ∧ Ext σ σ hp (hp.set id (some (.umap true es' c'))) nx nx w { w with heap := w.heap.setIfInBounds k (.map a' c') } := by
  have hlt : k < w.heap.size := (Array.getElem?_eq_some_iff.1 hh).1
  exact hr.set (w' := { w with heap := w.heap.setIfInBounds k (.map a' c') }) hg rfl hs (o' := .map a' c') (by simp [hlt]) (.umap true es' a' ms c' hp' he.1 he.2) rfl (by simp) (fun j hj => by simp [Array.getElem?_setIfInBounds_ne (Ne.symm hj)]) rfl rfl rfl nx

theorem modify_mid (a : Array MapEntry) (n1 n2 : List MapEntry) (e : MapEntry) (f : MapEntry → MapEntry) (h : a.toList = n1 ++ e :: n2) : (a.modify n1.length f).toList = n1 ++ f e :: n2 := by
  apply List.ext_getElem?
  intro i
  rw [Array.getElem?_toList, Array.getElem?_modify, ← Array.getElem?_toList, h]
  by_cases hi : n1.length = i
  · subst hi; simp
  · rw [if_neg hi]
    rcases Nat.lt_or_ge i n1.length with hlt | hge
    · rw [List.getElem?_append_left hlt, List.getElem?_append_left hlt]
    · rw [List.getElem?_append_right hge, List.getElem?_append_right hge]
      obtain ⟨d, hd⟩ : ∃ d, i - n1.length = d + 1 := ⟨i - n1.length - 1, by omega⟩
      rw [hd]; simp

theorem mapSetU_ok (hr : Rel B G σ hp w) {t : TypeId} {m k v : AV} {cm ck cv : Value} {r : R} (h : doMapSetU P hp nx t m k v = some r) (hm : Rv σ m cm) (hk : Rv σ k ck) (hv : Rv σ v cv) : OkU P B G σ hp nx w (Instr.mapUpdate t cm ck cv) r := by
  unfold doMapSetU at h
  split at h
  · rename_i kt et id hu
    split at h
    · rename_i kind es c hkind hg
      rcases cond_eq_some h with ⟨hpk, h⟩ | ⟨_, h⟩
      · have chk : ∀ e, (Instr.checkKey e 10000 kt ck).run P w = .ok () w := fun e => run_checkKey hkind hpk hk e 9999
        obtain ⟨b, z, hs, rfl⟩ := hm.inv_map
        obtain ⟨a, ms, hh, hp, he⟩ := hr.umap hg hs
        split at h
        · rename_i l1 y l2 hf
          simp only [rset, Option.some.injEq] at h; subst h
          obtain ⟨m1, e, m2, g1, g2, g3, g4, g5, g6, g7⟩ := (findU_ok hk he hf).2 _ _ _ rfl
          obtain ⟨n1, n2, hn, hpn⟩ := split_perm hp g1
          have hfk := run_findKey (P := P) (w := w) hkind (r := some (n1.length, e.val)) (ms := a.toList) (ck := ck) (by
            rw [hn, findNow_some (keyEq_ok g6 hk g4) fun f hf => g7 f (hpn.symm.subset (by simp [hf]))]; simp)
          have hks := keyStays (P := P) (w := w) g6 hk g4
          have hj : a[n1.length]? = some e := by rw [← Array.getElem?_toList, hn]; simp
          have hmod := modify_mid a n1 n2 e (fun e => { e with key := ck, val := cv }) hn
          obtain ⟨k1, k2⟩ := umap_turn (nx := nx) (c' := c) (a' := a.modify n1.length fun e => { e with key := ck, val := cv }) (es' := l1 ++ (k, v) :: l2) (ms := m1 ++ { e with key := ck, val := cv } :: m2) hr hg hs hh
            (by rw [hmod]; exact (List.perm_middle.trans (hpn.cons _)).trans List.perm_middle.symm) (g2.append (.cons ⟨hk, hv⟩ g3))
          refine ⟨σ, _, ?_, rfl, k1, k2⟩
          simp only [Instr.mapUpdate, Sem.run_bind, run_und hu, Result.andThen_ok, run_getMap hh, chk, hfk, hj, Option.map_some, Option.getD_some, hks, run_setMap hh]
        · rename_i hf
          simp only [rset, Option.some.injEq] at h; subst h
          have hfk := run_findKey (P := P) (w := w) hkind (r := none) (ms := a.toList) (ck := ck) (findNow_none fun e he' => (findU_ok hk he hf).1 rfl e (hp.symm.subset he'))
          obtain ⟨k1, k2⟩ := umap_turn (nx := nx) (c' := c + 1) (a' := a.push { key := ck, val := cv, born := c }) (es' := es ++ [(k, v)]) (ms := ms ++ [{ key := ck, val := cv, born := c }]) hr hg hs hh
            (by rw [Array.toList_push]; exact hp.append_right _) (he.append (.cons ⟨hk, hv⟩ .nil))
          refine ⟨σ, _, ?_, rfl, k1, k2⟩
          simp only [Instr.mapUpdate, Sem.run_bind, run_und hu, Result.andThen_ok, run_getMap hh, chk, hfk, run_setMap hh]
        · cases h
      · cases h
    · cases h
  · cases h

theorem deleteU_ok (hr : Rel B G σ hp w) {t u ty : TypeId} {m k : AV} {cm ck : Value} {r : R} (h : doDeleteU P hp nx t m k = some r) (hm : Rv σ m cm) (hk : Rv σ k ck) : OkV P B G σ hp nx w (Builtin.delete_ #[t, u] ty #[cm, ck]) r := by
  unfold doDeleteU at h
  split at h
  · rename_i kt et id hu
    split at h
    · rename_i kind es c hkind hg
      rcases cond_eq_some h with ⟨hpk, h⟩ | ⟨_, h⟩
      · have chk : ∀ e, (Instr.checkKey e 10000 kt ck).run P w = .ok () w := fun e => run_checkKey hkind hpk hk e 9999
        obtain ⟨b, z, hs, rfl⟩ := hm.inv_map
        obtain ⟨a, ms, hh, hp, he⟩ := hr.umap hg hs
        have hun : Rv σ unit (.tuple #[]) := .tup [] [] rfl (by simp)
        split at h
        · rename_i l1 y l2 hf
          simp only [rset, Option.some.injEq] at h; subst h
          obtain ⟨m1, e, m2, g1, g2, g3, g4, g5, g6, g7⟩ := (findU_ok hk he hf).2 _ _ _ rfl
          obtain ⟨n1, n2, hn, hpn⟩ := split_perm hp g1
          have hfk := run_findKey (P := P) (w := w) hkind (r := some (n1.length, e.val)) (ms := a.toList) (ck := ck) (by
            rw [hn, findNow_some (keyEq_ok g6 hk g4) fun f hf => g7 f (hpn.symm.subset (by simp [hf]))]; simp)
          have her : (a.eraseIdxIfInBounds n1.length).toList = n1 ++ n2 := by
            rw [Array.toList_eraseIdxIfInBounds, hn, List.eraseIdx_append_of_length_le (Nat.le_refl _)]; simp
          obtain ⟨k1, k2⟩ := umap_turn (nx := nx) (c' := c) (a' := a.eraseIdxIfInBounds n1.length) (es' := l1 ++ l2) (ms := m1 ++ m2) hr hg hs hh (by rw [her]; exact hpn) (g2.append g3)
          refine ⟨σ, _, .tuple #[], ?_, hun, k1, k2⟩
          simp [Builtin.delete_, run_und hu, run_getMap hh, chk, hfk, run_setMap hh]
        · rename_i hf
          simp only [rset, Option.some.injEq] at h; subst h
          have hfk := run_findKey (P := P) (w := w) hkind (r := none) (ms := a.toList) (ck := ck) (findNow_none fun e he' => (findU_ok hk he hf).1 rfl e (hp.symm.subset he'))
          obtain ⟨k1, k2⟩ := umap_turn (nx := nx) (c' := c) (a' := a) (es' := es) (ms := ms) hr hg hs hh hp he
          refine ⟨σ, _, .tuple #[], ?_, hun, k1, k2⟩
          simp [Builtin.delete_, run_und hu, run_getMap hh, chk, hfk, run_setMap hh]
        · cases h
      · cases h
    · cases h
  · cases h

theorem lenU_ok (hr : Rel B G σ hp w) {t ty : TypeId} {x : AV} {vx : Value} {r : R} (h : doLenU P hp nx t x = some r) (hx : Rv σ x vx) : OkV P B G σ hp nx w (Builtin.len_ #[t] ty #[vx]) r := by
  unfold doLenU at h
  split at h
  · rename_i kt et id hu
    split at h
    · rename_i wr es c hg
      obtain ⟨b, z, hs, rfl⟩ := hx.inv_map
      obtain ⟨a, ms, hh, hp, he⟩ := hr.umap hg hs
      have hlen : a.size = es.length := by rw [he.1, hp.length_eq]; simp
      refine OkV.rv hr h ⟨.int .i64 es.length, ?_, .int _ _⟩
      simp [Builtin.len_, run_und hu, run_getMap hh, goInt, hlen]
    · cases h
  · cases h
theorem orE_some {a b : Option R} {r : R} (h : orE a b = some r) : a = some r ∨ b = some r := by
  cases a with
  | some x => exact .inl h
  | none => exact .inr h
end
end Go.Ex
