/-
  The abstract machine: entering, leaving, jumps, results.
-/
import Derived.Test.YtkidamemnogojaaGreatDoorExFrame
set_option linter.unusedVariables false
set_option linter.unusedSimpArgs false
namespace Go.Ex

section
variable {P : Program} {B G : Nat} {Κ : List Item} {σ : Sg} {hp : Tr Blk} {nx : Nat} {w : World}

theorem wanted_ok {sz : Nat} {tm : Tr AV} {a : Act} (ht : RT σ sz tm a.tmps) {ops : Array Oper} {o : Oper} {b : Bool} (h : wantedA tm ops o = some b) : Region.wanted o (yielded ops a.tmps) = b := by
  unfold wantedA at h
  unfold Region.wanted
  cases hg : o.guard with
  | none => rw [hg] at h; simpa using h
  | some g =>
    obtain ⟨j, want⟩ := g
    rw [hg] at h
    simp only at h ⊢
    split at h
    · rename_i d hd
      have hd' : (ops[j]?).bind (·.dst) = some d := by rw [← Array.getElem?_toList]; exact hd
      split at h
      · rename_i v hv
        obtain ⟨c, hc, hr⟩ := ht.2 d _ hv
        rw [hr.inv_bool] at hc
        simp only [Option.some.injEq] at h; subst h
        simp only [yielded, hd', Option.bind_some, hc]
        rw [show (some v == some want) = (v == want) from rfl]
      · rename_i l hv
        obtain ⟨c, hc, hr⟩ := ht.2 d _ hv
        obtain ⟨vs, _, e⟩ := hr.inv_tup
        rw [e] at hc
        simp only [Option.some.injEq] at h; subst h
        simp only [yielded, hd', Option.bind_some, hc]
        rfl
      · cases h
    · cases h

theorem putTmps_get : ∀ (l : List AV) (i : Nat) (tm : Tr AV) (t : Nat), (putTmps l i tm).get t = if i ≤ t ∧ t < i + l.length then l[t - i]? else tm.get t := by
  intro l
  induction l with
  | nil => intro i tm t; simp [putTmps_n, putTmps_c]; intro h1 h2; omega
  | cons x l ih =>
    intro i tm t
    simp only [putTmps_n, putTmps_c, ih, List.length_cons]
    by_cases h : i + 1 ≤ t ∧ t < i + 1 + l.length
    · rw [if_pos h, if_pos (by omega), show t - i = (t - (i + 1)) + 1 from by omega]; simp
    · rw [if_neg h]
      by_cases ht : t = i
      · subst ht; rw [Tr.get_set_same, if_pos (by omega)]; simp
      · rw [Tr.get_set_other _ _ ht, if_neg (by omega)]

/-- A function is entered. -/
theorem enter_ok {f : FuncId} {args : List AV} {vs : Array Value} {fr : Fr} (h : enterA P f args = some fr) (ha : RL σ args vs.toList) :
    ∃ fn c a, P.funcs[f]? = some fn ∧ fn.body = some c ∧ Frame.enter P f vs .normal = (bF fr.fn none).atR a [.code c] ∧ RF Κ σ fr none a [.code c] ∧ fr.ret = false ∧ fr.rd = none ∧ fr.fn = f := by
  unfold enterA at h
  split at h
  · rename_i fn hf
    split at h
    · rename_i c hc
      rcases cond_eq_some h with ⟨hb, h'⟩ | ⟨_, h'⟩ <;> clear h
      · have hle := ble_iff.1 hb
        simp only [Option.some.injEq] at h'; subst h'
        have hl : args.length = vs.size := by simpa using ha.1
        refine ⟨fn, c, { tmps := vs ++ Array.replicate (fn.ntmps - vs.size) undef, defers := [] }, hf, hc, ?_, ⟨⟨?_, ?_⟩, .nil, fun _ => .cons (.code c) .nil, .none⟩, rfl, rfl, rfl⟩
        · simp [Frame.enter, hf, hc, Frame.atR, bF]
        · simp; omega
        · intro t x hx
          rw [putTmps_get] at hx
          split at hx
          · rename_i ht
            obtain ⟨v, hv, hr⟩ := ha.get hx
            refine ⟨v, ?_, hr⟩
            simp only [Nat.sub_zero] at hv
            rw [Array.getElem?_append_left (by omega)]
            rw [← Array.getElem?_toList]; exact hv
          · simp [Tr.get_lf] at hx
      · cases h'
    · cases h
  · cases h

theorem putPs_ok {sz : Nat} : ∀ {ps : List Tmp} {args : List AV} {vs : List Value} {tm : Tr AV} {tmps : Array Value}, RT σ sz tm tmps → RL σ args vs → (∀ p ∈ ps, p < sz) → ps.length = args.length →
    RT σ sz (putPs ps args tm) ((ps.zip vs).foldl (fun tmps (p : Tmp × Value) => tmps.setIfInBounds p.1 p.2) tmps) := by
  intro ps
  induction ps with
  | nil => intro args vs tm tmps ht ha _ hl; simpa [putPs] using ht
  | cons p ps ih =>
    intro args vs tm tmps ht ha hp hl
    cases args with
    | nil => simp at hl
    | cons x args =>
      obtain ⟨v, us, rfl, hx, ha'⟩ := ha.uncons
      simp only [putPs, List.zip_cons_cons, List.foldl_cons]
      exact ih (ht.set (hp p (by simp)) hx) ha' (fun q hq => hp q (by simp [hq])) (by simpa using hl)

/-- A round begins. -/
theorem round_ok (hr : Rel B G σ hp w) {id b z : Nat} {args : List AV} {vs : Array Value} {fr : Fr} (h : roundA hp id args = some fr) (hs : σ id = some (b, z)) (ha : RL σ args vs.toList) :
    ∃ l f tmps assign body a k, (Instr.yield b vs).run P w = .ok (.round l f tmps assign body) w ∧ Frame.round l f tmps assign body .normal = (bF fr.fn (some b)).atR a k ∧ RF Κ σ fr (some b) a k ∧ fr.ret = false ∧ fr.rd = some id := by
  unfold roundA at h
  split at h
  · rename_i st pend fn sz tm ps assign body df hg
    rcases cond_eq_some h with ⟨hb, h'⟩ | ⟨_, h'⟩ <;> clear h
    · simp only [Bool.and_eq_true, List.all_eq_true] at hb
      have hl := beq_iff.1 hb.1
      simp only [Option.some.injEq] at h'; subst h'
      obtain ⟨k, z', o, hs', hk, hro, _⟩ := hr.blk id _ hg
      rw [hs] at hs'; simp at hs'; obtain ⟨rfl, rfl⟩ := hs'
      cases hro with
      | loop _ _ _ _ _ ps' _ _ _ d zd tmps ht hd =>
        have hsz : args.length = vs.size := by simpa using ha.1
        have hsize : vs.size = ps'.size := by rw [← hsz, hl]; simp
        have hget : (getObj b).run P w = .ok (.loop { state := st, pending := pend, fn, tmps, params := ps', assign, body, defers := d }) w := by simp [getObj, Sem.run, hk]
        have hrt := putPs_ok ht ha (fun p hp => blt_iff.1 (hb.2 p hp)) hl.symm
        have e : (ps'.zip vs).foldl (fun tmps (p : Tmp × Value) => tmps.setIfInBounds p.1 p.2) tmps = (ps'.toList.zip vs.toList).foldl (fun tmps (p : Tmp × Value) => tmps.setIfInBounds p.1 p.2) tmps := by
          rw [← Array.foldl_toList, Array.toList_zip]
        rw [← e] at hrt
        refine ⟨b, fn, (ps'.zip vs).foldl (fun tmps (p : Tmp × Value) => tmps.setIfInBounds p.1 p.2) tmps, assign, body, { tmps := (ps'.zip vs).foldl (fun tmps (p : Tmp × Value) => tmps.setIfInBounds p.1 p.2) tmps, defers := [] }, [.code assign, .beginRound, .code body], ?_, rfl,
          ⟨hrt, .nil, fun _ => .cons (.code _) (.cons .begR (.cons (.code _) .nil)), .some id b z hs⟩, rfl, rfl⟩
        simp only [Instr.yield, Instr.getLoop, Sem.run_bind, hget, Result.andThen_ok, Sem.run_pure, hsize, ne_eq, not_true_eq_false, if_false]
    · cases h'
  · cases h

/-! ### Jumps -/
theorem exit_ok {id : Nat} : ∀ {l : List AI} {k : List Item}, RK Κ σ l k → (∀ l', exitA id l = some l' → ∃ k', exitTo id k = some k' ∧ RK Κ σ l' k') ∧ (exitA id l = none → noStop l = true → exitTo id k = none) := by
  intro l
  induction l with
  | nil => intro k h; cases h; exact ⟨fun l' h => (by cases h), fun _ _ => rfl⟩
  | cons x l ih =>
    intro k h
    cases h with
    | stop => exact ⟨fun l' h => (by cases h), fun _ h => (by cases h)⟩
    | cons hi ht =>
      cases hi with
      | inBlock id' =>
        simp only [exitA_blk, exitTo]
        by_cases he : id' = id
        · subst he
          simp only [beq_t, cond_true, beq_self_eq_true, if_true]
          exact ⟨fun l' h => by simp only [Option.some.injEq] at h; subst h; exact ⟨_, rfl, ht⟩, fun h _ => by cases h⟩
        · have hb : (id' == id) = false := by simpa using he
          simp only [beq_f he, cond_false, hb]
          exact ⟨(ih ht).1, fun h1 h2 => (ih ht).2 h1 (noStop_cons h2)⟩
      | _ => simp only [exitTo]; exact ⟨(ih ht).1, fun h1 h2 => (ih ht).2 h1 (noStop_cons h2)⟩
theorem goto_ok {t : Nat} : ∀ {l : List AI} {k : List Item}, RK Κ σ l k → (∀ l', gotoA t l = some l' → ∃ k', gotoIn t k = some k' ∧ RK Κ σ l' k') ∧ (gotoA t l = none → noStop l = true → gotoIn t k = none) := by
  intro l
  induction l with
  | nil => intro k h; cases h; exact ⟨fun l' h => by simp [gotoA] at h, fun _ _ => rfl⟩
  | cons x l ih =>
    intro k h
    cases h with
    | stop => exact ⟨fun l' h => (by simp [gotoA] at h), fun _ h => (by cases h)⟩
    | cons hi ht =>
      cases hi with
      | inScope body =>
        simp only [gotoA, gotoIn]
        cases hf : findLabel body t with
        | some rest =>
          exact ⟨fun l' h => by simp only [Option.some.injEq] at h; subst h; exact ⟨_, rfl, .cons (.code _) (.cons (.inScope _) ht)⟩, fun h _ => by cases h⟩
        | none => exact ⟨(ih ht).1, fun h1 h2 => (ih ht).2 h1 (noStop_cons h2)⟩
      | _ => simp only [gotoA, gotoIn]; exact ⟨(ih ht).1, fun h1 h2 => (ih ht).2 h1 (noStop_cons h2)⟩

/-! ### Results -/
theorem slot_ok {sz : Nat} {tm : Tr AV} {a : Act} (ht : RT σ sz tm a.tmps) (t : Nat) : Rv σ (slot tm t) (a.tmps.getD t undef) := by
  simp only [slot_eq]
  cases h : tm.get t with
  | none => exact .junk _
  | some v => obtain ⟨c, hc, hv⟩ := ht.2 t v h; simpa [hc] using hv

/-- A result variable, read. -/
def resF (tmps : Array Value) : ResultVar → Sem Value
  | .tmp t => pure (tmps.getD t undef)
  | .cell c t => do loadVar t (← asAddr (tmps.getD c undef))
theorem results_eq (fn : Func) (tmps : Array Value) : results fn tmps = (do let vs ← fn.results.mapM (resF tmps); pure (if h : vs.size = 1 then vs[0] else .tuple vs)) := rfl

theorem res_ok (hr : Rel B G σ hp w) {sz : Nat} {tm : Tr AV} {a : Act} (ht : RT σ sz tm a.tmps) : ∀ {rs : List ResultVar} {l : List AV}, resA P hp tm rs = some l →
    ∃ vs : List Value, RL σ l vs ∧ (rs.mapM (resF a.tmps)).run P w = .ok vs w := by
  intro rs
  induction rs with
  | nil => intro l h; simp [resA] at h; subst h; exact ⟨[], .nil, by simp⟩
  | cons x rs ih =>
    intro l h
    cases x with
    | tmp t =>
      simp only [resA] at h
      split at h
      · rename_i r hr'
        simp only [Option.some.injEq] at h; subst h
        obtain ⟨vs, h1, h2⟩ := ih hr'
        exact ⟨_, .cons (slot_ok ht t) h1, by simp only [List.mapM_cons, resF, Sem.run_bind, Sem.run_pure, Result.andThen_ok, h2]⟩
      · cases h
    | cell c t =>
      simp only [resA] at h
      split at h
      · rename_i v r hv hr'
        simp only [Option.some.injEq] at h; subst h
        obtain ⟨vs, h1, h2⟩ := ih hr'
        have hs := slot_ok ht c
        unfold loadA at hv
        split at hv
        · rename_i id off hq
          rw [hq] at hs
          split at hv
          · rename_i wr o cl hg
            obtain ⟨b, z, hσ, e⟩ := hs.inv_ptr
            obtain ⟨k, z', cc, tt, fr, hs', hk, hz, ho, hl, hf, hc, _⟩ := hr.cells hg
            rw [hσ] at hs'; simp at hs'; obtain ⟨rfl, rfl⟩ := hs'
            obtain ⟨u, hu, hx⟩ := run_loadVar (P := P) hk hc hl hv
            refine ⟨_, .cons hx h1, ?_⟩
            simp only [List.mapM_cons, resF]
            rw [e]
            simp only [Sem.run_bind, asAddr, Sem.run_pure, Result.andThen_ok, hu, h2]
          · cases hv
        · cases hv
      · cases h

theorem results_ok (hr : Rel B G σ hp w) {sz : Nat} {tm : Tr AV} {a : Act} (ht : RT σ sz tm a.tmps) {fn : Func} {x : AV} (h : resultsA P hp fn tm = some x) : ∃ v, (results fn a.tmps).run P w = .ok v w ∧ Rv σ x v := by
  unfold resultsA at h
  have key : ∀ l vs, RL σ l vs → (fn.results.toList.mapM (resF a.tmps)).run P w = .ok vs w → (results fn a.tmps).run P w = .ok (if h : vs.length = 1 then vs[0] else .tuple vs.toArray) w := by
    intro l vs hl hm
    rw [results_eq, Array.mapM_eq_mapM_toList]
    simp only [Sem.run_bind, map_eq_pure_bind, hm, Result.andThen_ok, Sem.run_pure]
    simp
  split at h
  · rename_i v hq
    simp only [Option.some.injEq] at h; subst h
    obtain ⟨vs, h1, h2⟩ := res_ok (P := P) hr ht hq
    have := key _ _ h1 h2
    obtain ⟨u, rfl, hu⟩ := h1.one
    exact ⟨u, by simpa using this, hu⟩
  · rename_i l hne hq
    simp only [Option.some.injEq] at h; subst h
    obtain ⟨vs, h1, h2⟩ := res_ok (P := P) hr ht hq
    have := key _ _ h1 h2
    have hl : vs.length ≠ 1 := by
      rw [← h1.1]
      intro e
      obtain ⟨y, rfl⟩ := List.length_eq_one_iff.1 e
      exact hne y rfl
    rw [dif_neg hl] at this
    exact ⟨_, this, .tup l vs h1.1 h1.2⟩
  · cases h
end
end Go.Ex
