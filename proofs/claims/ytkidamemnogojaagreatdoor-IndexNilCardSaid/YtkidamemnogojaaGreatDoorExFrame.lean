/-
  The abstract machine: frames.
-/
import Derived.Test.YtkidamemnogojaaGreatDoorExCalls
set_option linter.unusedVariables false
set_option linter.unusedSimpArgs false
namespace Go.Ex

/-! ### What is still to do -/
inductive RI (σ : Sg) : AI → Item → Prop
  | code (c : Code) : RI σ (.code c) (.code c)
  | inBlock (id : Nat) : RI σ (.inBlock id) (.inBlock id)
  | inLoop (c : Code) : RI σ (.inLoop c) (.inLoop c)
  | inScope (c : Code) : RI σ (.inScope c) (.inScope c)
  | inReg (ops : Array Oper) (k : Nat) (rest : List Oper) (h : ops.toList.drop k = rest) : RI σ (.inReg ops k rest) (.inRegion ops (List.range' k rest.length))
  | inRF (id b z : Nat) (h : σ id = some (b, z)) : RI σ (.inRF id) (.inRangeFunc b)
  | endRF (id b z : Nat) (h : σ id = some (b, z)) : RI σ (.endRF id) (.endRangeFunc b)
  | begR : RI σ .begR .beginRound

/-- Κ: what is to be done behind the end that is set. -/
inductive RK (Κ : List Item) (σ : Sg) : List AI → List Item → Prop
  | nil : RK Κ σ [] []
  | cons {x : AI} {y : Item} {l : List AI} {k : List Item} (h : RI σ x y) (t : RK Κ σ l k) : RK Κ σ (x :: l) (y :: k)
  | stop : RK Κ σ [.stop] Κ

inductive RD (σ : Sg) : List Nat → List Deferred → Prop
  | nil : RD σ [] []
  | cons {id b z : Nat} {l : List Nat} {ds : List Deferred} (h : σ id = some (b, z)) (t : RD σ l ds) : RD σ (id :: l) ({ target := .collected b, args := #[] } :: ds)

inductive RR (σ : Sg) : Option Nat → Option Nat → Prop
  | none : RR σ none none
  | some (id b z : Nat) (h : σ id = some (b, z)) : RR σ (some id) (some b)

section
variable {Κ : List Item} {σ τ : Sg}
theorem RI.mono (hs : Sub σ τ) {x : AI} {y : Item} (h : RI σ x y) : RI τ x y := by
  cases h with
  | code c => exact .code c
  | inBlock id => exact .inBlock id
  | inLoop c => exact .inLoop c
  | inScope c => exact .inScope c
  | inReg ops k rest h => exact .inReg ops k rest h
  | inRF id b z h => exact .inRF id b z (hs _ _ h)
  | endRF id b z h => exact .endRF id b z (hs _ _ h)
  | begR => exact .begR
theorem RK.mono (hs : Sub σ τ) {x : List AI} {y : List Item} (h : RK Κ σ x y) : RK Κ τ x y := by
  induction h with
  | nil => exact .nil
  | cons h _ ih => exact .cons (h.mono hs) ih
  | stop => exact .stop
theorem RD.mono (hs : Sub σ τ) {x : List Nat} {y : List Deferred} (h : RD σ x y) : RD τ x y := by
  induction h with
  | nil => exact .nil
  | cons h _ ih => exact .cons (hs _ _ h) ih
theorem RR.mono (hs : Sub σ τ) {x y : Option Nat} (h : RR σ x y) : RR τ x y := by
  cases h with
  | none => exact .none
  | some id b z h => exact .some id b z (hs _ _ h)
end

/-! ### Frames -/
structure RF (Κ : List Item) (σ : Sg) (f : Fr) (ro : Option Nat) (a : Act) (k : List Item) : Prop where
  tm : RT σ f.sz f.tm a.tmps
  df : RD σ f.df a.defers
  td : f.ret = false → RK Κ σ f.todo k
  rd : RR σ f.rd ro

theorem RF.mono {Κ : List Item} {σ τ : Sg} (hs : Sub σ τ) {f : Fr} {ro : Option Nat} {a : Act} {k : List Item} (h : RF Κ σ f ro a k) : RF Κ τ f ro a k :=
  ⟨h.tm.mono hs, h.df.mono hs, fun e => (h.td e).mono hs, h.rd.mono hs⟩

/-- The frame that a kind of activation is of. -/
def bF (fn : FuncId) (ro : Option Nat) : Frame := { fn, tmps := #[], todo := [], defers := [], mode := .run, kind := .normal, roundOf := ro }
/-- The frame of a state. -/
def mkF (f : Fr) (ro : Option Nat) (a : Act) (k : List Item) : Frame := { (bF f.fn ro).atR a k with mode := if f.ret then .returning else .run }

theorem mkF_run {f : Fr} {ro : Option Nat} {a : Act} {k : List Item} (h : f.ret = false) : mkF f ro a k = (bF f.fn ro).atR a k := by simp [mkF, h, Frame.atR]

/-- The callers. -/
inductive RC' (Κ : List Item) (σ : Sg) : List Fr → List Frame → Prop
  | nil : RC' Κ σ [] []
  | cons {f : Fr} {fs : List Fr} {ro : Option Nat} {a : Act} {k : List Item} {cs : List Frame} (h : RF Κ σ f ro a k) (hr : f.ret = false) (t : RC' Κ σ fs cs) : RC' Κ σ (f :: fs) ((bF f.fn ro).atR a k :: cs)
theorem RC'.mono {Κ : List Item} {σ τ : Sg} (hs : Sub σ τ) {x : List Fr} {y : List Frame} (h : RC' Κ σ x y) : RC' Κ τ x y := by
  induction h with
  | nil => exact .nil
  | cons h hr _ ih => exact .cons (h.mono hs) hr ih

/-! ### Temporaries -/
theorem RT.set {σ : Sg} {sz : Nat} {tm : Tr AV} {a : Array Value} (h : RT σ sz tm a) {d : Nat} {x : AV} {v : Value} (hd : d < sz) (hv : Rv σ x v) : RT σ sz (tm.set d (some x)) (a.setIfInBounds d v) := by
  refine ⟨by simpa using h.1, fun t y hy => ?_⟩
  by_cases ht : t = d
  · subst ht
    rw [Tr.get_set_same] at hy; cases hy
    exact ⟨v, by simp [h.1, hd], hv⟩
  · rw [Tr.get_set_other _ _ ht] at hy
    obtain ⟨u, hu, hr⟩ := h.2 t y hy
    exact ⟨u, by rw [Array.getElem?_setIfInBounds_ne (Ne.symm ht)]; exact hu, hr⟩

theorem drop_head {ops : Array Oper} {k : Nat} {o : Oper} {rest : List Oper} (h : ops.toList.drop k = o :: rest) : ops[k]? = some o ∧ ops.toList.drop (k + 1) = rest := by
  have hk : k < ops.toList.length := by
    rcases Nat.lt_or_ge k ops.toList.length with hk | hk
    · exact hk
    · rw [List.drop_eq_nil_of_le hk] at h; cases h
  rw [List.drop_eq_getElem_cons hk] at h
  simp only [List.cons.injEq] at h
  refine ⟨?_, h.2⟩
  rw [← Array.getElem?_toList, List.getElem?_eq_getElem hk, h.1]

/-- The top operation's value is there. -/
theorem finish_ok {Κ : List Item} {σ : Sg} {f f' : Fr} {x : AV} {v : Value} {ro : Option Nat} {a : Act} {k : List Item} (h : RF Κ σ f ro a k) (hr : f.ret = false) (hf : finishA f x = some f') (hv : Rv σ x v) :
    ∃ a' k', ((bF f.fn ro).atR a k).finish v = (bF f'.fn ro).atR a' k' ∧ RF Κ σ f' ro a' k' ∧ f'.ret = false ∧ f'.rd = f.rd ∧ f'.fn = f.fn := by
  have ht := h.td hr
  unfold finishA at hf
  split at hf
  · rename_i ops i o rest t htodo
    rw [htodo] at ht
    obtain ⟨hy, hk⟩ : ∃ hy, ht = hy := ⟨ht, rfl⟩
    cases ht with
    | cons hi hkt =>
      cases hi with
      | inReg _ _ _ hd =>
        obtain ⟨hop, hdrop⟩ := drop_head hd
        simp only [List.length_cons, List.range'_succ]
        split at hf
        · rename_i d hdst
          rcases cond_eq_some hf with ⟨hlt, hf'⟩ | ⟨_, hf'⟩ <;> clear hf
          · simp only [Option.some.injEq] at hf'; subst hf'
            refine ⟨a.put (some d) v, _, ?_, ⟨h.tm.set (blt_iff.1 hlt) hv, h.df, fun _ => .cons (.inReg ops (i + 1) rest hdrop) hkt, h.rd⟩, hr, rfl, rfl⟩
            rw [Frame.finish_atR, hop]; simp [hdst]
          · cases hf'
        · rename_i hdst
          simp only [Option.some.injEq] at hf; subst hf
          refine ⟨a, _, ?_, ⟨h.tm, h.df, fun _ => .cons (.inReg ops (i + 1) rest hdrop) hkt, h.rd⟩, hr, rfl, rfl⟩
          rw [Frame.finish_atR, hop]; simp [hdst, Act.put]
  · rename_i id t htodo
    rw [htodo] at ht
    cases ht with
    | cons hi hkt =>
      cases hi with
      | inRF _ b z hs =>
        simp only [Option.some.injEq] at hf; subst hf
        exact ⟨a, _, finish_atR_inRangeFunc b v, ⟨h.tm, h.df, fun _ => .cons (.endRF id b z hs) hkt, h.rd⟩, hr, rfl, rfl⟩
  · cases hf

/-! ### Steps at an operation -/
section steps
variable {P : Program} {b : Frame} {a : Act} {k : List Item} {cs : List Frame} {w w' : World} {ops : Array Oper} {i : Nat} {rest : List Nat} {o : Oper}

theorem step_value {v : Value} (ho : ops[i]? = some o) (hw : Region.wanted o (yielded ops a.tmps) = true) (hd : ∀ c, o.op ≠ .defer c)
    (hr : (execOp a.eval o).run P w = .ok (.value v) w' ∨ ((execOp a.eval o).run P w = .ok .skip w' ∧ v = undef)) :
    step P (lone (b.atR a (.inRegion ops (i :: rest) :: k)) cs w) = .next (lone ((b.atR a (.inRegion ops (i :: rest) :: k)).finish v) cs w') :=
  step_lone_go (by
    rw [stepGR_op ho hw, Oper.semAt_eq _ _ _ hd]
    rcases hr with hr | ⟨hr, rfl⟩ <;> simp [stepG.apply, hr])
theorem step_enter {f : FuncId} {args : Array Value} (ho : ops[i]? = some o) (hw : Region.wanted o (yielded ops a.tmps) = true) (hd : ∀ c, o.op ≠ .defer c)
    (hr : (execOp a.eval o).run P w = .ok (.enter f args) w') :
    step P (lone (b.atR a (.inRegion ops (i :: rest) :: k)) cs w) = .next (lone (Frame.enter P f args .normal) (b.atR a (.inRegion ops (i :: rest) :: k) :: cs) w') :=
  step_lone_go (by rw [stepGR_op ho hw, Oper.semAt_eq _ _ _ hd]; simp [stepG.apply, hr, Frame.atR])
theorem step_round {l : Nat} {f : FuncId} {tmps : Array Value} {assign body : Code} (ho : ops[i]? = some o) (hw : Region.wanted o (yielded ops a.tmps) = true) (hd : ∀ c, o.op ≠ .defer c)
    (hr : (execOp a.eval o).run P w = .ok (.round l f tmps assign body) w') :
    step P (lone (b.atR a (.inRegion ops (i :: rest) :: k)) cs w) = .next (lone (Frame.round l f tmps assign body .normal) (b.atR a (.inRegion ops (i :: rest) :: k) :: cs) w') :=
  step_lone_go (by rw [stepGR_op ho hw, Oper.semAt_eq _ _ _ hd]; simp [stepG.apply, hr, Frame.atR])
/-- A call that comes to its end. -/
theorem step_ext (hN : NoNum P) {g : FuncId} {vs : Array Value} {v : Value} (ho : ops[i]? = some o) (hw : Region.wanted o (yielded ops a.tmps) = true) (hd : ∀ c, o.op ≠ .defer c)
    (he : (execOp a.eval o).run P w = (callFunc g vs).run P w) (hr : RunsTo P g vs w v w' (b.atR a (.inRegion ops (i :: rest) :: k) :: cs)) :
    Steps P (lone (b.atR a (.inRegion ops (i :: rest) :: k)) cs w) (lone ((b.atR a (.inRegion ops (i :: rest) :: k)).finish v) cs w') := by
  rcases hr with hr | ⟨fn, c, h1, h2, h3⟩
  · exact .one (step_value ho hw hd (by rw [he]; exact hr))
  · obtain ⟨fr, k1, k2⟩ := h3
    exact .head (step_enter ho hw hd (by rw [he]; exact run_callFunc_enter hN h1 h2 vs)) (k1.trans (.one (step_leave_returned k2)))
end steps
end Go.Ex
