/-
  The abstract machine: calls of whatever arguments that fit their types; what a law's row asks behind such a call.
-/
import Derived.Test.YtiiadibbkijnhaaGreatDoorExLaid
import Derived.WideKeyArgs
import Derived.Below
import Derived.OpenShut
set_option linter.unusedVariables false
set_option linter.unusedSimpArgs false
namespace Go.Ex
open Go.ChangeShapes Go.WideShapes Go.RowKit

theorem oneC_of_ok {P : Program} {w : World} {r : Reach} {base : Nat} {t : TypeId} {v : Value} (h : Cell.okWide P w r base t v) : oneC v = true := by
  cases v
  case agg cs =>
    exfalso
    unfold Cell.okWide at h
    split at h
    any_goals (rename_i heq; cases heq; done)
    unfold Cell.ok at h
    split at h
    any_goals (rename_i heq; cases heq; done)
    exact h
  case tuple cs =>
    exfalso
    unfold Cell.okWide at h
    split at h
    any_goals (rename_i heq; cases heq; done)
    unfold Cell.ok at h
    split at h
    any_goals (rename_i heq; cases heq; done)
    exact h
  all_goals rfl

/-- What is known of a value of a type: how many cells it has. -/
noncomputable def openA (P : Program) (t : TypeId) : AV := match P.underlying t with
  | some (.struct _) => .agg (List.replicate (P.cellsOf t) .one)
  | some (.array _ _) => .agg (List.replicate (P.cellsOf t) .one)
  | _ => .one

theorem rv_agg_open {P : Program} {σ : Sg} {w : World} {r : Reach} {base : Nat} {t : TypeId} {cs : Array Value} (hs : cs.size = P.cellsOf t) (h : Row.okWide P w r base t cs) : Rv σ (.agg (List.replicate (P.cellsOf t) .one)) (.agg cs) := by
  obtain ⟨ts, _, _, hc⟩ := h
  have h1 : ∀ v, v ∈ cs.toList → oneC v = true := fun v hv => by
    obtain ⟨i, hi⟩ := List.mem_iff_getElem?.1 hv
    obtain ⟨u, _, hu⟩ := hc i v (by simpa using hi)
    exact oneC_of_ok hu
  have := Rv.agg (σ := σ) (List.replicate (P.cellsOf t) .one) cs.toList (by simp [hs]) h1 (fun i x v hx hv => by
    rw [List.getElem?_replicate] at hx
    split at hx
    · simp only [Option.some.injEq] at hx
      subst hx
      exact .one v (h1 v (List.mem_iff_getElem?.2 ⟨i, hv⟩))
    · cases hx)
  simpa using this

theorem rv_open {P : Program} {σ : Sg} {w : World} {r : Reach} {base : Nat} {t : TypeId} {v : Value} (h : Value.okWide P w r base t v) : Rv σ (openA P t) v := by
  unfold Value.okWide at h
  unfold openA
  cases hu : P.underlying t with
  | none => rw [hu] at h; exact .one v (oneC_of_ok h)
  | some d =>
    rw [hu] at h
    cases d
    case struct fs => obtain ⟨cs, rfl, hs, hr⟩ := h; exact rv_agg_open hs hr
    case array n e => obtain ⟨cs, rfl, hs, hr⟩ := h; exact rv_agg_open hs hr
    all_goals exact .one v (oneC_of_ok h)

theorem rl_open {P : Program} {σ : Sg} {w : World} {r : Reach} {base : Nat} {ts : List TypeId} {vs : List Value} (hlen : vs.length = ts.length) (h : ∀ (j : Nat) t v, ts[j]? = some t → vs[j]? = some v → Value.okWide P w r base t v) : RL σ (ts.map (openA P)) vs := by
  refine ⟨by simp [hlen], fun i x v hx hv => ?_⟩
  rw [List.getElem?_map] at hx
  cases ht : ts[i]? with
  | none => rw [ht] at hx; cases hx
  | some t =>
    rw [ht] at hx
    simp only [Option.map_some, Option.some.injEq] at hx
    subst hx
    exact rv_open (h i t v ht hv)

theorem rl_openA {P : Program} {σ : Sg} {w : World} {r : Reach} {base : Nat} {ts : Array TypeId} {vs : Array Value} (hlen : vs.toList.length = ts.toList.length) (h : ∀ (j : Nat) t v, ts[j]? = some t → vs[j]? = some v → Value.okWide P w r base t v) : RL σ (ts.toList.map (openA P)) vs.toList :=
  rl_open hlen fun j t v h1 h2 => h j t v (by simpa using h1) (by simpa using h2)

/-- Arguments that fit their types. -/
structure ArgsOk (P : Program) (w : World) (base : Nat) (ts : Array TypeId) (vs : Array Value) : Prop where
  ok : ∀ (j : Nat) t v, ts[j]? = some t → vs[j]? = some v → Value.okWide P w .any base t v
theorem rl_args {P : Program} {σ : Sg} {w : World} {base : Nat} {ts : Array TypeId} {vs : Array Value} (hlen : vs.toList.length = ts.toList.length) (h : ArgsOk P w base ts vs) : RL σ (ts.toList.map (openA P)) vs.toList := rl_openA hlen h.ok

theorem trodAll_len {H : Type} {enc : TypeId × Value → H} {P : Program} {w : World} {base : Nat} {sp : Nat → Bool} {held : Bool} : ∀ {ts : List TypeId} {vs : List Value} {ds : List (DataW H)} {ps : List MemPlace}, DataW.TrodAll enc P w base sp held ts vs ds ps → vs.length = ts.length
  | [], _, _, _, h => by obtain ⟨rfl, _, _⟩ := trodAll_nil h; rfl
  | _ :: _, _, _, _, h => by
    obtain ⟨v, vs1, d, ds1, a, b, rfl, rfl, rfl, h1, h2⟩ := trodAll_cons h
    simp [trodAll_len h2]

/-- What reads as data before a call reads so behind it, where nothing of before has changed. -/
theorem trodAll_stays {H : Type} {enc : TypeId × Value → H} {P : Program} (hl : laidOutB P = true) {W W' : World} (hb : Below W.heap.size W W') :
    ∀ {ts : List TypeId} {vs : List Value} {ds : List (DataW H)} {ps : List MemPlace}, (ts.all fun t => P.readableRec t && decide (t < P.types.size)) = true → (∀ p ∈ ps, p.block < W.heap.size) →
      DataW.TrodAll enc P W 0 (fun _ => true) true ts vs ds ps → DataW.TrodAll enc P W' 0 (fun b => decide (b < W.heap.size)) true ts vs ds ps
  | [], _, _, _, _, _, h => by obtain ⟨rfl, rfl, rfl⟩ := trodAll_nil h; exact trodAll_mk0
  | t :: ts, _, _, _, hr, hlt, h => by
    obtain ⟨v, vs1, d, ds1, a, b, rfl, rfl, rfl, h1, h2⟩ := trodAll_cons h
    simp only [List.all_cons, Bool.and_eq_true, decide_eq_true_eq] at hr
    exact trodAll_cons_mk (Go.WideElems.Trod_stays hl hr.1.1 hr.1.2 h1 (fun p hp => hb.same (hlt p (by simp [hp]))) (fun p hp => by simpa using hlt p (by simp [hp])))
      (trodAll_stays hl hb (by simpa using hr.2) (fun p hp => hlt p (by simp [hp])) h2)

/-- A law's row: it answers true, and all that was there stays as it was. -/
theorem post_true {H : Type} {enc : TypeId × Value → H} {P : Program} {f : Func} {s : ChangeSpec} {b : TypeId} {W W' : World} {args : Array Value} {ds gs : List (DataW H)} {before : List MemPlace} (hl : laidOutB P = true) (hr : (f.params.toList.all fun t => P.readableRec t && decide (t < P.types.size)) = true)
    (hvars : s.vars = []) (hres : f.resultTypes = #[b]) (hbool : P.underlying b = some .bool) (hfn : ∀ ds : List (DataW H), ds.length = f.params.toList.length → s.fn H ds = { results := [.lit (.bool true)], args := ds })
    (hW : DataW.Whole enc P f.params.toList s.vars false W args.toList ds gs before) (hb : Below W.heap.size W W') :
    s.post enc P f false true false false W args (.bool true) W' := by
  have hlt := hW.lt
  have hW' := hW
  obtain ⟨p, q, hA, hV, rfl, hfz, hnd⟩ := hW
  rw [hvars] at hV
  obtain ⟨rfl, rfl⟩ := trodVars_none hV
  have hlen : ds.length = f.params.toList.length := by
    have : ∀ {ts : List TypeId} {vs : List Value} {ds : List (DataW H)} {ps : List MemPlace}, DataW.TrodAll enc P W 0 (fun _ => true) true ts vs ds ps → ds.length = ts.length := by
      intro ts
      induction ts with
      | nil => intro vs ds ps h; obtain ⟨_, rfl, _⟩ := trodAll_nil h; rfl
      | cons t ts ih => intro vs ds ps h; obtain ⟨v, vs1, d, ds1, a, b, rfl, rfl, rfl, h1, h2⟩ := trodAll_cons h; simp [ih h2]
    exact this hA
  have hs := hfn ds hlen
  refine ⟨ds, [], p ++ [], [], p, [], hW', ?_, ?_, ?_, hb.frame _, fun h => by cases h⟩
  · rw [List.append_nil, hs, hres]
    exact trodAll_cons_mk (shut_bool hbool _) trodAll_mk0
  · rw [List.append_nil, hs]
    exact trodAll_stays hl hb hr (fun x hx => hlt x (by simp [hx])) hA
  · rw [List.append_nil, hs, hvars]
    rfl
end Go.Ex
