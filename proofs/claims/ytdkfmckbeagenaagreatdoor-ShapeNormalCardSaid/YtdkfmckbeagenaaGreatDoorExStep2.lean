/-
  The abstract machine: what is called.
 The abstract machine: frames.
 The abstract machine: functions that are known, whose answers make memory.
 The abstract machine: entering, leaving, jumps, results.
 The abstract machine: one step of it is steps of the model's.
 The abstract machine: one step of it is steps of the model's, all of them.
-/
import Derived.Test.YtdkfmckbeagenaaGreatDoorExOps9
import Derived.Lib.Bytealg
set_option linter.unusedVariables false
set_option linter.unusedSimpArgs false
namespace Go.Ex

section
variable {P : Program} {B G : Nat} {σ : Sg} {hp : Tr Blk} {nx : Nat} {w : World}

def NoNum (P : Program) : Prop := ∀ (f : FuncId) (fn : Func) (c : Code), P.funcs[f]? = some fn → fn.body = some c → fn.name ≠ "runtime.NumGoroutine"
theorem run_callFunc_enter (hN : NoNum P) {g : FuncId} {fn : Func} {c : Code} (hf : P.funcs[g]? = some fn) (hb : fn.body = some c) (args : Array Value) :
  (callFunc g args).run P w = .ok (.enter g args) w := by
 have h1 := hN g fn c hf hb
 simp [callFunc, hf, h1, hb]
theorem method_ok {t : TypeId} {v r : AV} {cv : Value} {name : String} {g : FuncId} (h : methodA P t v name = some (g, r)) (hv : Rv σ v cv) :
  (method (P.types.size + Made.depth) t cv name).run P w = .ok (g, cv) w ∧ r = v := by
 unfold methodA at h
 split at h
 ·rename_i i hi
  split at h
  ·rename_i m hm
   rcases cond_eq_some h with ⟨he, h'⟩ | ⟨_, h'⟩ <;> clear h
   ·have hpath : m.path.toList = [] := by simpa using he
    have hfuel : ∃ n, P.types.size + Made.depth = n + 1 := ⟨P.types.size + (Made.depth - 1), by show P.types.size + Made.depth = _; have : 0 < Made.depth := by decide
                                                                                                omega⟩
    obtain ⟨n, hn⟩ := hfuel
    rw [hn]
    split at h'
    ·rename_i f e hfn hu
     simp only [Option.some.injEq, Prod.mk.injEq] at h'
     obtain ⟨rfl, rfl⟩ := h'
     simp [method, run_info hi, hm, hpath, follow, hfn, receiverAt, run_und hu, Place.get]
    ·cases h'
    ·rename_i f d hnp hfn hu
     simp only [Option.some.injEq, Prod.mk.injEq] at h'
     obtain ⟨rfl, rfl⟩ := h'
     refine ⟨?_, rfl⟩
     simp only [method, Sem.run_bind, run_info hi, Result.andThen_ok, hm, hpath, follow, Sem.run_pure, hfn, receiverAt, run_und hu]
     cases hu' : d <;> first
      | (subst hu'; exact absurd rfl (hnp _ _ rfl hfn))
      | rfl
    ·cases h'
   ·cases h'
  ·cases h
 ·cases h
theorem callee_ok (hr : Rel B G σ hp w) {sz : Nat} {tm : Tr AV} {a : Act} (ht : RT σ sz tm a.tmps) {o : Oper} {c : Call} (ho : o.op = .call c) {k : Callk} (h : calleeA P G tm c = some k) :
  (∀ g args, k = .func g args → ∃ vs : Array Value, RL σ args vs.toList ∧ (execOp a.eval o).run P w = (callFunc g vs).run P w) ∧
  (∀ id args, k = .yield id args → ∃ (b z : Nat) (vs : Array Value), σ id = some (b, z) ∧ RL σ args vs.toList ∧ (execOp a.eval o).run P w = (Instr.yield b vs).run P w) := by
 have hargs := evs_ok hr ht c.args
 unfold calleeA at h
 split at h
 ·rename_i f hc
  have hf := ev_ok hr ht f
  split at h
  ·rename_i g first cap hq
   rw [hq] at hf
   obtain ⟨va, vb, h1, h2, e⟩ := hf.inv_fn
   simp only [Option.some.injEq] at h; subst h
   refine ⟨fun g' args' he => ?_, fun id args' he => by cases he⟩
   cases he
   refine ⟨va.toArray ++ c.args.map a.eval ++ vb.toArray, ?_, ?_⟩
   ·simp only [Array.toList_append]
    exact (h1.append hargs).append h2
   ·simp [execOp, ho, resolve, hc, e, Deferred.ofValue, invoke]
  ·rename_i id hq
   rw [hq] at hf
   obtain ⟨b, z, hs, e⟩ := hf.inv_yl
   simp only [Option.some.injEq] at h; subst h
   refine ⟨fun g' args' he => (by cases he), fun id' args' he => ?_⟩
   cases he
   refine ⟨b, z, c.args.map a.eval, hs, hargs, ?_⟩
   simp [execOp, ho, resolve, hc, e, Deferred.ofValue, invoke]
  ·cases h
 ·rename_i x name hc
  have hx := ev_ok hr ht x
  split at h
  ·rename_i t v hq
   rw [hq] at hx
   obtain ⟨u, hu, e⟩ := hx.inv_iface
   split at h
   ·rename_i g r hm
    simp only [Option.some.injEq] at h; subst h
    obtain ⟨h1, rfl⟩ := method_ok (w := w) hm hu
    refine ⟨fun g' args' he => ?_, fun id args' he => by cases he⟩
    cases he
    refine ⟨#[u] ++ c.args.map a.eval, by rw [Array.toList_append]; exact .cons hu hargs, ?_⟩
    have hex : (c.args.map a.eval).extract 0 c.args.size = c.args.map a.eval := by
     have := Array.extract_size (xs := c.args.map a.eval)
     rwa [Array.size_map] at this
    simp [execOp, ho, resolve, hc, e, invoke, callMethod, h1, Nat.add_comm 1]
    rw [hex]
   ·cases h
  ·cases h
 ·cases h
def RunsTo (P : Program) (g : FuncId) (vs : Array Value) (w : World) (v : Value) (w' : World) (cs : List Frame) : Prop :=
 ((callFunc g vs).run P w = .ok (.value v) w' ∨ ((callFunc g vs).run P w = .ok .skip w' ∧ v = undef)) ∨
 ∃ fn c, P.funcs[g]? = some fn ∧ fn.body = some c ∧ ∃ fr, Steps P (lone (Frame.enter P g vs .normal) cs w) (lone fr cs w') ∧ fr.leaving P w' (.returned v)
def OkX (P : Program) (B G : Nat) (σ : Sg) (hp : Tr Blk) (nx : Nat) (w : World) (g : FuncId) (vs : Array Value) (r : R) : Prop :=
 ∀ cs, ∃ τ w' v, RunsTo P g vs w v w' cs ∧ Rv τ r.v v ∧ Rel B G τ (app r.dl hp) w' ∧ Ext σ τ hp (app r.dl hp) nx r.nx w w'
def XOk (P : Program) (X : FuncId → Option ExtK) : Prop := ∀ (g : FuncId) (k : ExtK), X g = some k → ∀ (B G : Nat) (σ : Sg) (hp : Tr Blk) (nx : Nat) (w : World) (args : List AV) (vs : Array Value) (r : R),
 Rel B G σ hp w → B ≤ w.heap.size → RL σ args vs.toList → extA G hp nx k args = some r → Fresh σ nx r.nx → OkX P B G σ hp nx w g vs r
theorem extO_ok {X : FuncId → Option ExtK} (hX : XOk P X) {g : FuncId} {args : List AV} {vs : Array Value} {r : R} (hr : Rel B G σ hp w) (hB : B ≤ w.heap.size) (ha : RL σ args vs.toList) (h : extO G X hp nx g args = some r) (hf : Fresh σ nx r.nx) : OkX P B G σ hp nx w g vs r := by
 unfold extO at h
 split at h
 ·rename_i k hk; exact hX g k hk B G σ hp nx w args vs r hr hB ha h hf
 ·cases h
theorem count_list (c : UInt8) : ∀ (l : List UInt8), Lib.countByte l c = countS c.toNat (l.map UInt8.toNat) := by
 intro l
 unfold Lib.countByte
 induction l with
 | nil => rfl
 | cons x l ih =>
  simp only [List.map_cons, countS, List.count_cons]
  by_cases h : x = c
  ·subst h
   simp only [beq_self_eq_true, if_true, ih, beq_t, cond_true]
  ·have hb : (x == c) = false := by simpa using h
   have hn : x.toNat ≠ c.toNat := fun e => h (UInt8.toNat_inj.1 e)
   simp only [hb, ih, beq_f hn, cond_false]; simp
theorem index_list (c : UInt8) : ∀ (l : List UInt8) (i : Nat), (match indexS c.toNat (l.map UInt8.toNat) i with | some j => (j : Int) - i | none => -1) = Lib.indexByte l c ∧ ∀ j, indexS c.toNat (l.map UInt8.toNat) i = some j → i ≤ j := by
 intro l
 induction l with
 | nil => intro i; simp [indexS, Lib.indexByte]
 | cons x l ih =>
  intro i
  simp only [List.map_cons, indexS, Lib.indexByte]
  by_cases h : x = c
  ·subst h
   simp only [beq_t, cond_true, beq_self_eq_true, if_true]
   exact ⟨by simp, fun j hj => by simp only [Option.some.injEq] at hj; omega⟩
  ·have hb : (x == c) = false := by simpa using h
   have hn : x.toNat ≠ c.toNat := fun e => h (UInt8.toNat_inj.1 e)
   simp only [hb, beq_f hn, cond_false]
   obtain ⟨h1, h2⟩ := ih (i + 1)
   cases hq : indexS c.toNat (l.map UInt8.toNat) (i + 1) with
   | none => rw [hq] at h1; simp only at h1; rw [← h1]; simp
   | some j =>
    have hj := h2 j hq
    rw [hq] at h1; simp only at h1; rw [← h1]
    refine ⟨?_, fun k hk => by simp only [Option.some.injEq] at hk; omega⟩
    have : ((((j : Int) - ((i + 1 : Nat) : Int)) == -1)) = false := by rw [beq_eq_false_iff_ne]; omega
    rw [this]; simp; omega
def ExtK.entry : ExtK → Option (Array Value → Sem Value)
 | .count => some Extern.BytealgCount.count
 | .indexByte => some Extern.BytealgIndexByte.indexByte
 | .same => some Extern.AbiNoEscape.same
 | .fbits => some Extern.MathFloatBits.float64frombits
 | .compare => some Extern.BytealgCompare.compare
 | .makeNoZero _ => none
 | _ => none
theorem compare_list : ∀ (a b : List UInt8), Lib.compareBytes a b = (bif eqS (a.map UInt8.toNat) (b.map UInt8.toNat) then 0 else bif ltS (a.map UInt8.toNat) (b.map UInt8.toNat) then -1 else 1) := by
 intro a
 induction a with
 | nil => intro b; cases b <;> rfl
 | cons x a ih =>
  intro b
  cases b with
  | nil => rfl
  | cons y b =>
   simp only [Lib.compareBytes, List.map_cons, eqS_nn, eqS_nc, eqS_cn, eqS_cc, ltS_n, ltS_nc, ltS_cc, ih]
   by_cases h1 : x < y
   ·have hn : x.toNat < y.toNat := UInt8.lt_iff_toNat_lt.1 h1
    rw [if_pos h1, beq_f (Nat.ne_of_lt hn), blt_iff.2 hn]; rfl
   ·by_cases h2 : y < x
    ·have hn : y.toNat < x.toNat := UInt8.lt_iff_toNat_lt.1 h2
     rw [if_neg h1, if_pos h2, beq_f (Nat.ne_of_gt hn), blt_iff_f.2 (Nat.le_of_lt hn)]; rfl
    ·have hn1 : ¬ x.toNat < y.toNat := fun e => h1 (UInt8.lt_iff_toNat_lt.2 e)
     have hn2 : ¬ y.toNat < x.toNat := fun e => h2 (UInt8.lt_iff_toNat_lt.2 e)
     rw [if_neg h1, if_neg h2, beq_t (by omega)]; rfl
theorem u8_of {c : Nat} (h : c < 256) : (Int.toNat (Int.ofNat c)).toUInt8.toNat = c := by simp; omega
theorem ext_ok (hr : Rel B G σ hp w) {k : ExtK} {e : Array Value → Sem Value} (hk : k.entry = some e) {args : List AV} {vs : Array Value} {r : R} (ha : RL σ args vs.toList) (h : extA G hp nx k args = some r) : OkV P B G σ hp nx w (e vs) r := by
 unfold extA at h
 split at h
 ·rename_i s c
  rcases cond_eq_some h with ⟨hc, h'⟩ | ⟨_, h'⟩ <;> clear h
  ·have hc := blt_iff.1 hc
   obtain ⟨v, u, hvs, h1, h2⟩ := ha.two
   rw [list2 hvs]
   obtain ⟨b, rfl, rfl⟩ := h1.inv_str
   rw [h2.inv_int]
   simp only [ExtK.entry, Option.some.injEq] at hk; subst hk
   refine .rv hr h' ⟨_, Lib.run_countString b (.ofNat c) w, ?_⟩
   rw [count_list, u8_of hc]
   exact .int _ _
  ·cases h'
 ·rename_i s c
  rcases cond_eq_some h with ⟨hc, h'⟩ | ⟨_, h'⟩ <;> clear h
  ·have hc := blt_iff.1 hc
   obtain ⟨v, u, hvs, h1, h2⟩ := ha.two
   rw [list2 hvs]
   obtain ⟨b, rfl, rfl⟩ := h1.inv_str
   rw [h2.inv_int]
   simp only [ExtK.entry, Option.some.injEq] at hk; subst hk
   obtain ⟨g1, _⟩ := index_list (Int.toNat (Int.ofNat c)).toUInt8 b.data.toList 0
   rw [u8_of hc] at g1
   have hrun := run_indexByte_string (P := P) b (.ofNat c) w
   rw [Lib.firstIdx_eq, ← g1] at hrun
   split at h'
   ·rename_i i hi
    rw [show indexS c (b.data.toList.map UInt8.toNat) 0 = some i from hi] at hrun
    exact .rv hr h' ⟨_, hrun, by simp only [Int.natCast_zero, Int.sub_zero]; exact .int _ _⟩
   ·rename_i hi
    rw [show indexS c (b.data.toList.map UInt8.toNat) 0 = none from hi] at hrun
    exact .rv hr h' ⟨_, hrun, .int _ _⟩
  ·cases h'
 ·obtain ⟨v, hvs, h1⟩ := ha.one
  rw [list1 hvs]
  simp only [ExtK.entry, Option.some.injEq] at hk; subst hk
  exact .rv hr h ⟨v, rfl, h1⟩
 ·obtain ⟨v, hvs, h1⟩ := ha.one
  rw [list1 hvs, h1.inv_int]
  simp only [ExtK.entry, Option.some.injEq] at hk; subst hk
  exact .rv hr h ⟨_, rfl, .flt _ _⟩
 ·obtain ⟨v, u, hvs, h1, h2⟩ := ha.two
  rw [list2 hvs]
  obtain ⟨b1, rfl, rfl⟩ := h1.inv_str
  obtain ⟨b2, rfl, rfl⟩ := h2.inv_str
  simp only [ExtK.entry, Option.some.injEq] at hk; subst hk
  refine .rv hr h ⟨_, Lib.run_compareString b1 b2 w, ?_⟩
  rw [compare_list]
  exact .int _ _
 ·cases hk
 ·cases hk
 ·cases hk
 ·cases hk
 ·cases h
theorem XOk.of {X : FuncId → Option ExtK} (h : ∀ g k, X g = some k → (∃ fn e, P.funcs[g]? = some fn ∧ k.entry = some e ∧ (fn.name == "runtime.NumGoroutine") = false ∧ fn.body.isNone = true ∧ Extern.findNext fn = none ∧ Extern.find fn = some e) ∨
  ∀ (B G : Nat) (σ : Sg) (hp : Tr Blk) (nx : Nat) (w : World) (args : List AV) (vs : Array Value) (r : R), Rel B G σ hp w → B ≤ w.heap.size → RL σ args vs.toList → extA G hp nx k args = some r → Fresh σ nx r.nx → OkX P B G σ hp nx w g vs r) : XOk P X := by
 intro g k hk B G σ hp nx w args vs r hr hB ha hx hf
 rcases h g k hk with ⟨fn, e, h1, h2, h3, h4, h5, h6⟩ | h1
 ·obtain ⟨τ, w', v, k1, k2, k3, k4⟩ := ext_ok (P := P) hr h2 ha hx
  exact fun _ => ⟨τ, w', v, .inl (.inl (by rw [run_callFunc_extern h1 h3 h4 h5 h6, k1]; rfl)), k2, k3, k4⟩
 ·exact h1 B G σ hp nx w args vs r hr hB ha hx hf
end
end Go.Ex
set_option linter.unusedVariables false
set_option linter.unusedSimpArgs false
namespace Go.Ex

inductive RI (σ : Sg) : AI → Item → Prop
 | code (c : Code) : RI σ (.code c) (.code c)
 | inBlock (id : Nat) : RI σ (.inBlock id) (.inBlock id)
 | inLoop (c : Code) : RI σ (.inLoop c) (.inLoop c)
 | inScope (c : Code) : RI σ (.inScope c) (.inScope c)
 | inReg (ops : Array Oper) (k : Nat) (rest : List Oper) (h : ops.toList.drop k = rest) : RI σ (.inReg ops k rest) (.inRegion ops (List.range' k rest.length))
 | inRF (id b z : Nat) (h : σ id = some (b, z)) : RI σ (.inRF id) (.inRangeFunc b)
 | endRF (id b z : Nat) (h : σ id = some (b, z)) : RI σ (.endRF id) (.endRangeFunc b)
 | begR : RI σ .begR .beginRound
inductive RK (Κ : List Item) (σ : Sg) : List AI → List Item → Prop
 | nil : RK Κ σ [] []
 | cons {x : AI} {y : Item} {l : List AI} {k : List Item} (h : RI σ x y) (t : RK Κ σ l k) : RK Κ σ (x :: l) (y :: k)
 | stop : RK Κ σ [.stop] Κ
inductive RD (σ : Sg) : List Nat → List Deferred → Prop
 | nil : RD σ [] []
 | cons {id b z : Nat} {l : List Nat} {ds : List Deferred} (h : σ id = some (b, z)) (t : RD σ l ds) : RD σ (id :: l) ({ target := .collected b, args := #[] } :: ds)
inductive RR (σ : Sg) : Option Nat → Option Nat → Prop
 | none : RR σ none none
 | some (id b z : Nat) (h : σ id = some (b, z)) : RR σ (some id) (some b)
section
variable {Κ : List Item} {σ τ : Sg}
theorem RI.mono (hs : Sub σ τ) {x : AI} {y : Item} (h : RI σ x y) : RI τ x y := by
 cases h with
 | code c => exact .code c
 | inBlock id => exact .inBlock id
 | inLoop c => exact .inLoop c
 | inScope c => exact .inScope c
 | inReg ops k rest h => exact .inReg ops k rest h
 | inRF id b z h => exact .inRF id b z (hs _ _ h)
 | endRF id b z h => exact .endRF id b z (hs _ _ h)
 | begR => exact .begR
theorem RK.mono (hs : Sub σ τ) {x : List AI} {y : List Item} (h : RK Κ σ x y) : RK Κ τ x y := by
 induction h with
 | nil => exact .nil
 | cons h _ ih => exact .cons (h.mono hs) ih
 | stop => exact .stop
theorem RD.mono (hs : Sub σ τ) {x : List Nat} {y : List Deferred} (h : RD σ x y) : RD τ x y := by
 induction h with
 | nil => exact .nil
 | cons h _ ih => exact .cons (hs _ _ h) ih
theorem RR.mono (hs : Sub σ τ) {x y : Option Nat} (h : RR σ x y) : RR τ x y := by
 cases h with
 | none => exact .none
 | some id b z h => exact .some id b z (hs _ _ h)
end

structure RF (Κ : List Item) (σ : Sg) (f : Fr) (ro : Option Nat) (a : Act) (k : List Item) : Prop where
 tm : RT σ f.sz f.tm a.tmps
 df : RD σ f.df a.defers
 td : f.ret = false → RK Κ σ f.todo k
 rd : RR σ f.rd ro
theorem RF.mono {Κ : List Item} {σ τ : Sg} (hs : Sub σ τ) {f : Fr} {ro : Option Nat} {a : Act} {k : List Item} (h : RF Κ σ f ro a k) : RF Κ τ f ro a k :=
 ⟨h.tm.mono hs, h.df.mono hs, fun e => (h.td e).mono hs, h.rd.mono hs⟩
def bF (fn : FuncId) (ro : Option Nat) : Frame := { fn, tmps := #[], todo := [], defers := [], mode := .run, kind := .normal, roundOf := ro }
def mkF (f : Fr) (ro : Option Nat) (a : Act) (k : List Item) : Frame := { (bF f.fn ro).atR a k with mode := if f.ret then .returning else .run }
theorem mkF_run {f : Fr} {ro : Option Nat} {a : Act} {k : List Item} (h : f.ret = false) : mkF f ro a k = (bF f.fn ro).atR a k := by simp [mkF, h, Frame.atR]
inductive RC' (Κ : List Item) (σ : Sg) : List Fr → List Frame → Prop
 | nil : RC' Κ σ [] []
 | cons {f : Fr} {fs : List Fr} {ro : Option Nat} {a : Act} {k : List Item} {cs : List Frame} (h : RF Κ σ f ro a k) (hr : f.ret = false) (t : RC' Κ σ fs cs) : RC' Κ σ (f :: fs) ((bF f.fn ro).atR a k :: cs)
theorem RC'.mono {Κ : List Item} {σ τ : Sg} (hs : Sub σ τ) {x : List Fr} {y : List Frame} (h : RC' Κ σ x y) : RC' Κ τ x y := by
 induction h with
 | nil => exact .nil
 | cons h hr _ ih => exact .cons (h.mono hs) hr ih
theorem RT.set {σ : Sg} {sz : Nat} {tm : Tr AV} {a : Array Value} (h : RT σ sz tm a) {d : Nat} {x : AV} {v : Value} (hd : d < sz) (hv : Rv σ x v) : RT σ sz (tm.set d (some x)) (a.setIfInBounds d v) := by
 refine ⟨by simpa using h.1, fun t y hy => ?_⟩
 by_cases ht : t = d
 ·subst ht
  rw [Tr.get_set_same] at hy; cases hy
  exact ⟨v, by simp [h.1, hd], hv⟩
 ·rw [Tr.get_set_other _ _ ht] at hy
  obtain ⟨u, hu, hr⟩ := h.2 t y hy
  exact ⟨u, by rw [Array.getElem?_setIfInBounds_ne (Ne.symm ht)]; exact hu, hr⟩
theorem drop_head {ops : Array Oper} {k : Nat} {o : Oper} {rest : List Oper} (h : ops.toList.drop k = o :: rest) : ops[k]? = some o ∧ ops.toList.drop (k + 1) = rest := by
 have hk : k < ops.toList.length := by
  rcases Nat.lt_or_ge k ops.toList.length with hk | hk
  ·exact hk
  ·rw [List.drop_eq_nil_of_le hk] at h; cases h
 rw [List.drop_eq_getElem_cons hk] at h
 simp only [List.cons.injEq] at h
 refine ⟨?_, h.2⟩
 rw [← Array.getElem?_toList, List.getElem?_eq_getElem hk, h.1]
theorem finish_ok {Κ : List Item} {σ : Sg} {f f' : Fr} {x : AV} {v : Value} {ro : Option Nat} {a : Act} {k : List Item} (h : RF Κ σ f ro a k) (hr : f.ret = false) (hf : finishA f x = some f') (hv : Rv σ x v) :
  ∃ a' k', ((bF f.fn ro).atR a k).finish v = (bF f'.fn ro).atR a' k' ∧ RF Κ σ f' ro a' k' ∧ f'.ret = false ∧ f'.rd = f.rd ∧ f'.fn = f.fn := by
 have ht := h.td hr
 unfold finishA at hf
 split at hf
 ·rename_i ops i o rest t htodo
  rw [htodo] at ht
  obtain ⟨hy, hk⟩ : ∃ hy, ht = hy := ⟨ht, rfl⟩
  cases ht with
  | cons hi hkt =>
   cases hi with
   | inReg _ _ _ hd =>
    obtain ⟨hop, hdrop⟩ := drop_head hd
    simp only [List.length_cons, List.range'_succ]
    split at hf
    ·rename_i d hdst
     rcases cond_eq_some hf with ⟨hlt, hf'⟩ | ⟨_, hf'⟩ <;> clear hf
     ·simp only [Option.some.injEq] at hf'; subst hf'
      refine ⟨a.put (some d) v, _, ?_, ⟨h.tm.set (blt_iff.1 hlt) hv, h.df, fun _ => .cons (.inReg ops (i + 1) rest hdrop) hkt, h.rd⟩, hr, rfl, rfl⟩
      rw [Frame.finish_atR, hop]; simp [hdst]
     ·cases hf'
    ·rename_i hdst
     simp only [Option.some.injEq] at hf; subst hf
     refine ⟨a, _, ?_, ⟨h.tm, h.df, fun _ => .cons (.inReg ops (i + 1) rest hdrop) hkt, h.rd⟩, hr, rfl, rfl⟩
     rw [Frame.finish_atR, hop]; simp [hdst, Act.put]
 ·rename_i id t htodo
  rw [htodo] at ht
  cases ht with
  | cons hi hkt =>
   cases hi with
   | inRF _ b z hs =>
    simp only [Option.some.injEq] at hf; subst hf
    exact ⟨a, _, finish_atR_inRangeFunc b v, ⟨h.tm, h.df, fun _ => .cons (.endRF id b z hs) hkt, h.rd⟩, hr, rfl, rfl⟩
 ·cases hf
section steps
variable {P : Program} {b : Frame} {a : Act} {k : List Item} {cs : List Frame} {w w' : World} {ops : Array Oper} {i : Nat} {rest : List Nat} {o : Oper}

theorem step_value {v : Value} (ho : ops[i]? = some o) (hw : Region.wanted o (yielded ops a.tmps) = true) (hd : ∀ c, o.op ≠ .defer c)
  (hr : (execOp a.eval o).run P w = .ok (.value v) w' ∨ ((execOp a.eval o).run P w = .ok .skip w' ∧ v = undef)) :
  step P (lone (b.atR a (.inRegion ops (i :: rest) :: k)) cs w) = .next (lone ((b.atR a (.inRegion ops (i :: rest) :: k)).finish v) cs w') :=
 step_lone_go (by
  rw [stepGR_op ho hw, Oper.semAt_eq _ _ _ hd]
  rcases hr with hr | ⟨hr, rfl⟩ <;> simp [stepG.apply, hr])
theorem step_enter {f : FuncId} {args : Array Value} (ho : ops[i]? = some o) (hw : Region.wanted o (yielded ops a.tmps) = true) (hd : ∀ c, o.op ≠ .defer c)
  (hr : (execOp a.eval o).run P w = .ok (.enter f args) w') :
  step P (lone (b.atR a (.inRegion ops (i :: rest) :: k)) cs w) = .next (lone (Frame.enter P f args .normal) (b.atR a (.inRegion ops (i :: rest) :: k) :: cs) w') :=
 step_lone_go (by rw [stepGR_op ho hw, Oper.semAt_eq _ _ _ hd]; simp [stepG.apply, hr, Frame.atR])
theorem step_round {l : Nat} {f : FuncId} {tmps : Array Value} {assign body : Code} (ho : ops[i]? = some o) (hw : Region.wanted o (yielded ops a.tmps) = true) (hd : ∀ c, o.op ≠ .defer c)
  (hr : (execOp a.eval o).run P w = .ok (.round l f tmps assign body) w') :
  step P (lone (b.atR a (.inRegion ops (i :: rest) :: k)) cs w) = .next (lone (Frame.round l f tmps assign body .normal) (b.atR a (.inRegion ops (i :: rest) :: k) :: cs) w') :=
 step_lone_go (by rw [stepGR_op ho hw, Oper.semAt_eq _ _ _ hd]; simp [stepG.apply, hr, Frame.atR])
theorem step_ext (hN : NoNum P) {g : FuncId} {vs : Array Value} {v : Value} (ho : ops[i]? = some o) (hw : Region.wanted o (yielded ops a.tmps) = true) (hd : ∀ c, o.op ≠ .defer c)
  (he : (execOp a.eval o).run P w = (callFunc g vs).run P w) (hr : RunsTo P g vs w v w' (b.atR a (.inRegion ops (i :: rest) :: k) :: cs)) :
  Steps P (lone (b.atR a (.inRegion ops (i :: rest) :: k)) cs w) (lone ((b.atR a (.inRegion ops (i :: rest) :: k)).finish v) cs w') := by
 rcases hr with hr | ⟨fn, c, h1, h2, h3⟩
 ·exact .one (step_value ho hw hd (by rw [he]; exact hr))
 ·obtain ⟨fr, k1, k2⟩ := h3
  exact .head (step_enter ho hw hd (by rw [he]; exact run_callFunc_enter hN h1 h2 vs)) (k1.trans (.one (step_leave_returned k2)))
end steps
end Go.Ex
set_option linter.unusedVariables false
set_option linter.unusedSimpArgs false
namespace Go.Ex

section
variable {P : Program} {B G : Nat} {σ : Sg} {hp : Tr Blk} {nx : Nat} {w : World}

theorem digits_one : ∀ (n t : Nat) (acc : Array Value), (∀ v, v ∈ acc.toList → oneC v = true) → ∀ v, v ∈ (Extern.BytealgMakeNoZero.digits n t acc).toList → oneC v = true := by
 intro n
 induction n with
 | zero => intro t acc h v hv; exact h v hv
 | succ n ih =>
  intro t acc h v hv
  refine ih (t / 256) (acc.push (.int .u8 (Int.ofNat (t % 256)))) (fun u hu => ?_) v hv
  simp only [Array.toList_push, List.mem_append, List.mem_singleton] at hu
  rcases hu with hu | rfl
  ·exact h u hu
  ·rfl
theorem run_makeNoZero1 (w : World) (ps : Array TypeId) (t e : TypeId) (ht : P.underlying t = some (.slice e)) (n : Nat) (hn : n ≤ 281474976710656) :
  ∃ cs : Array Value, (Extern.BytealgMakeNoZero.makeNoZero ps #[t] #[.int .i64 n]).run P w = .ok (.slice (some ⟨w.heap.size, 0, none⟩) n cs.size) (w.drew.drew.alloc (.cells cs e)) ∧ n ≤ cs.size ∧ CapOk cs.size ∧ ∀ v, v ∈ cs.toList → oneC v = true := by
 have hdef : Extern.BytealgMakeNoZero.makeNoZero ps #[t] #[.int .i64 n] =
   (do
    let .slice elem ← underlying t | stuck "bytealg.MakeNoZero: slice type expected"
    if (n : Int) < 0 || (n : Int) > 2 ^ 48 then runtimePanic (.error "makeslice: len out of range")
    let cap ← choose (.appendCap (n : Int).toNat 0 elem)
    askRoom cap
    let bytes ← choose (.extern "internal/bytealg.MakeNoZero.bytes" 0)
    let a ← newRow elem (Extern.BytealgMakeNoZero.digits cap bytes #[])
    pure (.slice (some a) (n : Int).toNat cap)) := rfl
 refine ⟨Extern.BytealgMakeNoZero.digits (grownCap w n 0 e) ((Question.extern "internal/bytealg.MakeNoZero.bytes" 0).cut (w.tape (w.drawn + 1) (.extern "internal/bytealg.MakeNoZero.bytes" 0))) #[], ?_, ?_, ?_, digits_one _ _ _ (by simp)⟩
 ·rw [hdef]
  have h1 : ¬ (n : Int) < 0 := by omega
  have h2 : ¬ (281474976710656 : Int) < (n : Int) := by omega
  simp [run_underlying ht, h1, h2, Question.forced, newRow, Lib.size_digits, grownCap]
 ·rw [Lib.size_digits]
  simpa using grownCap_ge w n 0 e
 ·rw [Lib.size_digits]
  have := grownCap_le_maxLen w n 0 e (by unfold maxLen; omega)
  unfold maxLen at this
  simpa [CapOk] using this
def KnownOk (P : Program) (g : FuncId) (k : ExtK) : Prop := ∀ (B G : Nat) (σ : Sg) (hp : Tr Blk) (nx : Nat) (w : World) (args : List AV) (vs : Array Value) (r : R),
 Rel B G σ hp w → B ≤ w.heap.size → RL σ args vs.toList → extA G hp nx k args = some r → Fresh σ nx r.nx → OkX P B G σ hp nx w g vs r
theorem repl_one (n : Nat) : ∀ (i : Nat) x, (repl n [AV.junk])[i]? = some x → x = .junk := by
 induction n with
 | zero => intro i x h; simp [repl_z] at h
 | succ n ih =>
  intro i x h
  rw [repl_c] at h
  cases i with
  | zero => simp at h; exact h.symm
  | succ i => exact ih i x (by simpa using h)
theorem known_makeNoZero {g : FuncId} {fn : Func} {ps : Array TypeId} {t e : TypeId} (h1 : P.funcs[g]? = some fn) (h2 : (fn.name == "runtime.NumGoroutine") = false) (h3 : fn.body.isNone = true) (h4 : Extern.findNext fn = none)
  (h5 : Extern.find fn = some (Extern.BytealgMakeNoZero.makeNoZero ps #[t])) (ht : P.underlying t = some (.slice e)) : KnownOk P g (.makeNoZero e) := by
 intro B G σ hp nx w args vs r hr hB ha hx hf
 unfold extA at hx
 split at hx
 any_goals (rename_i heq; cases heq; done)
 ·rename_i e' n hk
  simp only [ExtK.makeNoZero.injEq] at hk; subst hk
  rcases cond_eq_some hx with ⟨hb, h⟩ | ⟨_, h⟩
  ·have hb := blt_iff.1 hb
   simp only [rnew, Option.some.injEq] at h; subst h
   obtain ⟨v, hvs, hv⟩ := ha.one
   have hvs2 : vs = #[v] := list1 hvs
   subst hvs2
   rw [hv.inv_int]
   obtain ⟨cs, hrun, hle, hcap, hone⟩ := run_makeNoZero1 (P := P) w ps t e ht n (by omega)
   have hn := hf nx (Nat.le_refl _) (Nat.lt_succ_self _)
   have hlen : (repl n [AV.junk]).length = n := by rw [repl_length]; simp
   obtain ⟨q1, q2⟩ := hr.new (z := cs.size) (nx := nx) (b := .cells true true (some e) (repl n [.junk])) (o := .cells cs e) (w' := w.drew.drew.alloc (.cells cs e)) hB hn
    (.cells true true (some e) _ cs e (0, 0) (fun a h => by cases h; rfl) rfl (fun h => by cases h) (by omega) (fun _ _ h => Nat.not_lt_zero _ h.2) (fun i v hv => hone v (List.mem_of_getElem? (by simpa using hv)))
     (fun i x hx => by
      have hi : i < n := by rw [← hlen]; exact (List.getElem?_eq_some_iff.1 hx).1
      rw [repl_one n i x hx]
      exact ⟨cs[i], by simp [show i < cs.size by omega], .junk _⟩)) rfl rfl rfl rfl
   refine fun _ => ⟨_, _, _, .inl (.inl ?_), .slo nx 0 n cs.size 1 _ cs.size (Sg.put_same _ _ _) (by omega) hcap, q1, q2⟩
   rw [run_callFunc_extern h1 h2 h3 h4 h5]
   rw [show (Int.ofNat n) = ((n : Nat) : Int) from rfl, hrun]
   rfl
  ·cases h
 ·cases hx
end
end Go.Ex
set_option linter.unusedVariables false
set_option linter.unusedSimpArgs false
namespace Go.Ex

section
variable {P : Program} {B G : Nat} {Κ : List Item} {σ : Sg} {hp : Tr Blk} {nx : Nat} {w : World}

theorem wanted_ok {sz : Nat} {tm : Tr AV} {a : Act} (ht : RT σ sz tm a.tmps) {ops : Array Oper} {o : Oper} {b : Bool} (h : wantedA tm ops o = some b) : Region.wanted o (yielded ops a.tmps) = b := by
 unfold wantedA at h
 unfold Region.wanted
 cases hg : o.guard with
 | none => rw [hg] at h; simpa using h
 | some g =>
  obtain ⟨j, want⟩ := g
  rw [hg] at h
  simp only at h ⊢
  split at h
  ·rename_i d hd
   have hd' : (ops[j]?).bind (·.dst) = some d := by rw [← Array.getElem?_toList]; exact hd
   split at h
   ·rename_i v hv
    obtain ⟨c, hc, hr⟩ := ht.2 d _ hv
    rw [hr.inv_bool] at hc
    simp only [Option.some.injEq] at h; subst h
    simp only [yielded, hd', Option.bind_some, hc]
    rw [show (some v == some want) = (v == want) from rfl]
   ·rename_i l hv
    obtain ⟨c, hc, hr⟩ := ht.2 d _ hv
    obtain ⟨vs, _, e⟩ := hr.inv_tup
    rw [e] at hc
    simp only [Option.some.injEq] at h; subst h
    simp only [yielded, hd', Option.bind_some, hc]
    rfl
   ·cases h
  ·cases h
theorem putTmps_get : ∀ (l : List AV) (i : Nat) (tm : Tr AV) (t : Nat), (putTmps l i tm).get t = if i ≤ t ∧ t < i + l.length then l[t - i]? else tm.get t := by
 intro l
 induction l with
 | nil => intro i tm t; simp [putTmps_n, putTmps_c]; intro h1 h2; omega
 | cons x l ih =>
  intro i tm t
  simp only [putTmps_n, putTmps_c, ih, List.length_cons]
  by_cases h : i + 1 ≤ t ∧ t < i + 1 + l.length
  ·rw [if_pos h, if_pos (by omega), show t - i = (t - (i + 1)) + 1 from by omega]; simp
  ·rw [if_neg h]
   by_cases ht : t = i
   ·subst ht; rw [Tr.get_set_same, if_pos (by omega)]; simp
   ·rw [Tr.get_set_other _ _ ht, if_neg (by omega)]
theorem enter_ok {f : FuncId} {args : List AV} {vs : Array Value} {fr : Fr} (h : enterA P f args = some fr) (ha : RL σ args vs.toList) :
  ∃ fn c a, P.funcs[f]? = some fn ∧ fn.body = some c ∧ Frame.enter P f vs .normal = (bF fr.fn none).atR a [.code c] ∧ RF Κ σ fr none a [.code c] ∧ fr.ret = false ∧ fr.rd = none ∧ fr.fn = f := by
 unfold enterA at h
 split at h
 ·rename_i fn hf
  split at h
  ·rename_i c hc
   rcases cond_eq_some h with ⟨hb, h'⟩ | ⟨_, h'⟩ <;> clear h
   ·have hle := ble_iff.1 hb
    simp only [Option.some.injEq] at h'; subst h'
    have hl : args.length = vs.size := by simpa using ha.1
    refine ⟨fn, c, { tmps := vs ++ Array.replicate (fn.ntmps - vs.size) undef, defers := [] }, hf, hc, ?_, ⟨⟨?_, ?_⟩, .nil, fun _ => .cons (.code c) .nil, .none⟩, rfl, rfl, rfl⟩
    ·simp [Frame.enter, hf, hc, Frame.atR, bF]
    ·simp; omega
    ·intro t x hx
     rw [putTmps_get] at hx
     split at hx
     ·rename_i ht
      obtain ⟨v, hv, hr⟩ := ha.get hx
      refine ⟨v, ?_, hr⟩
      simp only [Nat.sub_zero] at hv
      rw [Array.getElem?_append_left (by omega)]
      rw [← Array.getElem?_toList]; exact hv
     ·simp [Tr.get_lf] at hx
   ·cases h'
  ·cases h
 ·cases h
theorem putPs_ok {sz : Nat} : ∀ {ps : List Tmp} {args : List AV} {vs : List Value} {tm : Tr AV} {tmps : Array Value}, RT σ sz tm tmps → RL σ args vs → (∀ p ∈ ps, p < sz) → ps.length = args.length →
  RT σ sz (putPs ps args tm) ((ps.zip vs).foldl (fun tmps (p : Tmp × Value) => tmps.setIfInBounds p.1 p.2) tmps) := by
 intro ps
 induction ps with
 | nil => intro args vs tm tmps ht ha _ hl; simpa [putPs] using ht
 | cons p ps ih =>
  intro args vs tm tmps ht ha hp hl
  cases args with
  | nil => simp at hl
  | cons x args =>
   obtain ⟨v, us, rfl, hx, ha'⟩ := ha.uncons
   simp only [putPs, List.zip_cons_cons, List.foldl_cons]
   exact ih (ht.set (hp p (by simp)) hx) ha' (fun q hq => hp q (by simp [hq])) (by simpa using hl)
theorem round_ok (hr : Rel B G σ hp w) {id b z : Nat} {args : List AV} {vs : Array Value} {fr : Fr} (h : roundA hp id args = some fr) (hs : σ id = some (b, z)) (ha : RL σ args vs.toList) :
  ∃ l f tmps assign body a k, (Instr.yield b vs).run P w = .ok (.round l f tmps assign body) w ∧ Frame.round l f tmps assign body .normal = (bF fr.fn (some b)).atR a k ∧ RF Κ σ fr (some b) a k ∧ fr.ret = false ∧ fr.rd = some id := by
 unfold roundA at h
 split at h
 ·rename_i st pend fn sz tm ps assign body df hg
  rcases cond_eq_some h with ⟨hb, h'⟩ | ⟨_, h'⟩ <;> clear h
  ·simp only [Bool.and_eq_true, List.all_eq_true] at hb
   have hl := beq_iff.1 hb.1
   simp only [Option.some.injEq] at h'; subst h'
   obtain ⟨k, z', o, hs', hk, hro, _⟩ := hr.blk id _ hg
   rw [hs] at hs'; simp at hs'; obtain ⟨rfl, rfl⟩ := hs'
   cases hro with
   | loop _ _ _ _ _ ps' _ _ _ d zd tmps ht hd =>
    have hsz : args.length = vs.size := by simpa using ha.1
    have hsize : vs.size = ps'.size := by rw [← hsz, hl]; simp
    have hget : (getObj b).run P w = .ok (.loop { state := st, pending := pend, fn, tmps, params := ps', assign, body, defers := d }) w := by simp [getObj, Sem.run, hk]
    have hrt := putPs_ok ht ha (fun p hp => blt_iff.1 (hb.2 p hp)) hl.symm
    have e : (ps'.zip vs).foldl (fun tmps (p : Tmp × Value) => tmps.setIfInBounds p.1 p.2) tmps = (ps'.toList.zip vs.toList).foldl (fun tmps (p : Tmp × Value) => tmps.setIfInBounds p.1 p.2) tmps := by
     rw [← Array.foldl_toList, Array.toList_zip]
    rw [← e] at hrt
    refine ⟨b, fn, (ps'.zip vs).foldl (fun tmps (p : Tmp × Value) => tmps.setIfInBounds p.1 p.2) tmps, assign, body, { tmps := (ps'.zip vs).foldl (fun tmps (p : Tmp × Value) => tmps.setIfInBounds p.1 p.2) tmps, defers := [] }, [.code assign, .beginRound, .code body], ?_, rfl,
     ⟨hrt, .nil, fun _ => .cons (.code _) (.cons .begR (.cons (.code _) .nil)), .some id b z hs⟩, rfl, rfl⟩
    simp only [Instr.yield, Instr.getLoop, Sem.run_bind, hget, Result.andThen_ok, Sem.run_pure, hsize, ne_eq, not_true_eq_false, if_false]
  ·cases h'
 ·cases h
theorem exit_ok {id : Nat} : ∀ {l : List AI} {k : List Item}, RK Κ σ l k → (∀ l', exitA id l = some l' → ∃ k', exitTo id k = some k' ∧ RK Κ σ l' k') ∧ (exitA id l = none → noStop l = true → exitTo id k = none) := by
 intro l
 induction l with
 | nil => intro k h; cases h; exact ⟨fun l' h => (by cases h), fun _ _ => rfl⟩
 | cons x l ih =>
  intro k h
  cases h with
  | stop => exact ⟨fun l' h => (by cases h), fun _ h => (by cases h)⟩
  | cons hi ht =>
   cases hi with
   | inBlock id' =>
    simp only [exitA_blk, exitTo]
    by_cases he : id' = id
    ·subst he
     simp only [beq_t, cond_true, beq_self_eq_true, if_true]
     exact ⟨fun l' h => by simp only [Option.some.injEq] at h; subst h; exact ⟨_, rfl, ht⟩, fun h _ => by cases h⟩
    ·have hb : (id' == id) = false := by simpa using he
     simp only [beq_f he, cond_false, hb]
     exact ⟨(ih ht).1, fun h1 h2 => (ih ht).2 h1 (noStop_cons h2)⟩
   | _ => simp only [exitTo]; exact ⟨(ih ht).1, fun h1 h2 => (ih ht).2 h1 (noStop_cons h2)⟩
theorem goto_ok {t : Nat} : ∀ {l : List AI} {k : List Item}, RK Κ σ l k → (∀ l', gotoA t l = some l' → ∃ k', gotoIn t k = some k' ∧ RK Κ σ l' k') ∧ (gotoA t l = none → noStop l = true → gotoIn t k = none) := by
 intro l
 induction l with
 | nil => intro k h; cases h; exact ⟨fun l' h => by simp [gotoA] at h, fun _ _ => rfl⟩
 | cons x l ih =>
  intro k h
  cases h with
  | stop => exact ⟨fun l' h => (by simp [gotoA] at h), fun _ h => (by cases h)⟩
  | cons hi ht =>
   cases hi with
   | inScope body =>
    simp only [gotoA, gotoIn]
    cases hf : findLabel body t with
    | some rest =>
     exact ⟨fun l' h => by simp only [Option.some.injEq] at h; subst h; exact ⟨_, rfl, .cons (.code _) (.cons (.inScope _) ht)⟩, fun h _ => by cases h⟩
    | none => exact ⟨(ih ht).1, fun h1 h2 => (ih ht).2 h1 (noStop_cons h2)⟩
   | _ => simp only [gotoA, gotoIn]; exact ⟨(ih ht).1, fun h1 h2 => (ih ht).2 h1 (noStop_cons h2)⟩
theorem slot_ok {sz : Nat} {tm : Tr AV} {a : Act} (ht : RT σ sz tm a.tmps) (t : Nat) : Rv σ (slot tm t) (a.tmps.getD t undef) := by
 simp only [slot_eq]
 cases h : tm.get t with
 | none => exact .junk _
 | some v => obtain ⟨c, hc, hv⟩ := ht.2 t v h; simpa [hc] using hv
def resF (tmps : Array Value) : ResultVar → Sem Value
 | .tmp t => pure (tmps.getD t undef)
 | .cell c t => do loadVar t (← asAddr (tmps.getD c undef))
theorem results_eq (fn : Func) (tmps : Array Value) : results fn tmps = (do let vs ← fn.results.mapM (resF tmps); pure (if h : vs.size = 1 then vs[0] else .tuple vs)) := rfl
theorem res_ok (hr : Rel B G σ hp w) {sz : Nat} {tm : Tr AV} {a : Act} (ht : RT σ sz tm a.tmps) : ∀ {rs : List ResultVar} {l : List AV}, resA P hp tm rs = some l →
  ∃ vs : List Value, RL σ l vs ∧ (rs.mapM (resF a.tmps)).run P w = .ok vs w := by
 intro rs
 induction rs with
 | nil => intro l h; simp [resA] at h; subst h; exact ⟨[], .nil, by simp⟩
 | cons x rs ih =>
  intro l h
  cases x with
  | tmp t =>
   simp only [resA] at h
   split at h
   ·rename_i r hr'
    simp only [Option.some.injEq] at h; subst h
    obtain ⟨vs, h1, h2⟩ := ih hr'
    exact ⟨_, .cons (slot_ok ht t) h1, by simp only [List.mapM_cons, resF, Sem.run_bind, Sem.run_pure, Result.andThen_ok, h2]⟩
   ·cases h
  | cell c t =>
   simp only [resA] at h
   split at h
   ·rename_i v r hv hr'
    simp only [Option.some.injEq] at h; subst h
    obtain ⟨vs, h1, h2⟩ := ih hr'
    have hs := slot_ok ht c
    unfold loadA at hv
    split at hv
    ·rename_i id off hq
     rw [hq] at hs
     split at hv
     ·rename_i wr o cl hg
      obtain ⟨b, z, hσ, e⟩ := hs.inv_ptr
      obtain ⟨k, z', cc, tt, fr, hs', hk, hz, ho, hl, hf, hc, _⟩ := hr.cells hg
      rw [hσ] at hs'; simp at hs'; obtain ⟨rfl, rfl⟩ := hs'
      obtain ⟨u, hu, hx⟩ := run_loadVar (P := P) hk hc hl hv
      refine ⟨_, .cons hx h1, ?_⟩
      simp only [List.mapM_cons, resF]
      rw [e]
      simp only [Sem.run_bind, asAddr, Sem.run_pure, Result.andThen_ok, hu, h2]
     ·cases hv
    ·cases hv
   ·cases h
theorem results_ok (hr : Rel B G σ hp w) {sz : Nat} {tm : Tr AV} {a : Act} (ht : RT σ sz tm a.tmps) {fn : Func} {x : AV} (h : resultsA P hp fn tm = some x) : ∃ v, (results fn a.tmps).run P w = .ok v w ∧ Rv σ x v := by
 unfold resultsA at h
 have key : ∀ l vs, RL σ l vs → (fn.results.toList.mapM (resF a.tmps)).run P w = .ok vs w → (results fn a.tmps).run P w = .ok (if h : vs.length = 1 then vs[0] else .tuple vs.toArray) w := by
  intro l vs hl hm
  rw [results_eq, Array.mapM_eq_mapM_toList]
  simp only [Sem.run_bind, map_eq_pure_bind, hm, Result.andThen_ok, Sem.run_pure]
  simp
 split at h
 ·rename_i v hq
  simp only [Option.some.injEq] at h; subst h
  obtain ⟨vs, h1, h2⟩ := res_ok (P := P) hr ht hq
  have := key _ _ h1 h2
  obtain ⟨u, rfl, hu⟩ := h1.one
  exact ⟨u, by simpa using this, hu⟩
 ·rename_i l hne hq
  simp only [Option.some.injEq] at h; subst h
  obtain ⟨vs, h1, h2⟩ := res_ok (P := P) hr ht hq
  have := key _ _ h1 h2
  have hl : vs.length ≠ 1 := by
   rw [← h1.1]
   intro e
   obtain ⟨y, rfl⟩ := List.length_eq_one_iff.1 e
   exact hne y rfl
  rw [dif_neg hl] at this
  exact ⟨_, this, .tup l vs h1.1 h1.2⟩
 ·cases h
end
end Go.Ex
set_option linter.unusedVariables false
set_option linter.unusedSimpArgs false
namespace Go.Ex

def botF : Fr → List Fr → Fr
 | f, [] => f
 | _, c :: cs => botF c cs
theorem botF_congr {f f' : Fr} (h1 : f'.rd = f.rd) (h2 : f'.fn = f.fn) (cs : List Fr) : (botF f' cs).rd = (botF f cs).rd ∧ (botF f' cs).fn = (botF f cs).fn := by
 cases cs with
 | nil => exact ⟨h1, h2⟩
 | cons c cs => exact ⟨rfl, rfl⟩
structure RSt (Κ : List Item) (B G : Nat) (σ : Sg) (s : St) (rd : Option Nat) (fn : FuncId) (ro : Option Nat) (a : Act) (k : List Item) (cs : List Frame) (w : World) : Prop where
 fr : RF Κ σ s.fr ro a k
 cs : RC' Κ σ s.cs cs
 rel : Rel B G σ s.hp w
 big : B ≤ w.heap.size
 bot : (botF s.fr s.cs).rd = rd ∧ (botF s.fr s.cs).fn = fn
def Goes (Κ : List Item) (P : Program) (B G : Nat) (σ : Sg) (s : St) (rd : Option Nat) (fn : FuncId) (m : Machine) (cs0 : List Frame) (w : World) (s' : St) : Prop :=
 ∃ τ ro a k cs w', Steps P m (lone (mkF s'.fr ro a k) (cs ++ cs0) w') ∧ RSt Κ B G τ s' rd fn ro a k cs w' ∧ Ext σ τ s.hp s'.hp s.nx s'.nx w w'
def Ends (P : Program) (B G : Nat) (σ : Sg) (s : St) (rd : Option Nat) (fn : FuncId) (m : Machine) (cs0 : List Frame) (w : World) (x : AV) (s' : St) : Prop :=
 ∃ τ w' v, Rv τ x v ∧ Rel B G τ s'.hp w' ∧ Ext σ τ s.hp s'.hp s.nx s'.nx w w' ∧ (∀ c cs, cs0 = c :: cs → Steps P m (lone (c.finish v) cs w')) ∧
  (rd = none → ∃ fr, Steps P m (lone fr cs0 w') ∧ fr.leaving P w' (.returned v) ∧ fr.fn = fn)
def OutOk (Κ : List Item) (P : Program) (B G : Nat) (σ : Sg) (s : St) (rd : Option Nat) (fn : FuncId) (m : Machine) (cs0 : List Frame) (w : World) : Out → Prop
 | .go s' => Fresh σ s.nx s'.nx → Goes Κ P B G σ s rd fn m cs0 w s'
 | .done x s' => Fresh σ s.nx s'.nx → Ends P B G σ s rd fn m cs0 w x s'
 | .pick l => l = [] ∨ ∃ r, r ∈ l ∧ ∀ s1, putV ((apartS s).turn r.dl r.nx) r.v = .go s1 → Fresh σ s.nx s1.nx → Goes Κ P B G σ s rd fn m cs0 w s1
 | .stop s' => s' = s ∧ s.cs = [] ∧ s.fr.ret = false ∧ s.fr.todo = [.stop]
 | _ => True
section
variable {Κ : List Item} {P : Program} {B G : Nat} {σ τ : Sg} {s s1 : St} {rd : Option Nat} {fn : FuncId} {ro : Option Nat} {a : Act} {k : List Item} {cs cs0 : List Frame} {w w' : World} {m : Machine}

theorem goes_todo (h : RSt Κ B G σ s rd fn ro a k cs w) {todo : List AI} {k' : List Item} (hret : s.fr.ret = false) (hst : Steps P m (lone ((bF s.fr.fn ro).atR a k') (cs ++ cs0) w)) (hk : RK Κ σ todo k') :
  Goes Κ P B G σ s rd fn m cs0 w { s with fr := { s.fr with todo } } := by
 refine ⟨σ, ro, a, k', cs, w, ?_, ⟨⟨h.fr.tm, h.fr.df, fun _ => hk, h.fr.rd⟩, h.cs, h.rel, h.big, ?_⟩, .refl ..⟩
 ·rw [mkF_run (by exact hret)]; exact hst
 ·have := botF_congr (f := s.fr) (f' := { s.fr with todo }) rfl rfl s.cs
  exact ⟨this.1.trans h.bot.1, this.2.trans h.bot.2⟩
theorem goes_todo_heap (h : RSt Κ B G σ s rd fn ro a k cs w) {todo : List AI} {k' : List Item} (hret : s.fr.ret = false) (hfr : s1.fr = s.fr) (hcs : s1.cs = s.cs) (hrel : Rel B G τ s1.hp w') (hext : Ext σ τ s.hp s1.hp s.nx s1.nx w w')
  (hst : Steps P m (lone ((bF s.fr.fn ro).atR a k') (cs ++ cs0) w')) (hk : RK Κ τ todo k') :
  Goes Κ P B G σ s rd fn m cs0 w { s1 with fr := { s1.fr with todo } } := by
 refine ⟨τ, ro, a, k', cs, w', ?_, ⟨⟨?_, ?_, fun _ => hk, ?_⟩, ?_, hrel, Nat.le_trans h.big hext.size, ?_⟩, hext⟩
 ·rw [mkF_run (by simp only [hfr]; exact hret)]; simp only [hfr]; exact hst
 ·simp only [hfr]; exact h.fr.tm.mono hext.sub
 ·simp only [hfr]; exact h.fr.df.mono hext.sub
 ·simp only [hfr]; exact h.fr.rd.mono hext.sub
 ·simp only [hcs]; exact h.cs.mono hext.sub
 ·have := botF_congr (f := s.fr) (f' := { s1.fr with todo }) (by simp only [hfr]) (by simp only [hfr]) s.cs
  simp only [hcs]
  exact ⟨this.1.trans h.bot.1, this.2.trans h.bot.2⟩
theorem putV_ok {x : AV} (h : RSt Κ B G σ s rd fn ro a k cs w) (hret : s.fr.ret = false) (hfr : s1.fr = s.fr) (hcs : s1.cs = s.cs) (hrel : Fresh σ s.nx s1.nx → ∃ τ w' v, Rel B G τ s1.hp w' ∧ Ext σ τ s.hp s1.hp s.nx s1.nx w w' ∧ Rv τ x v ∧
   Steps P m (lone (((bF s.fr.fn ro).atR a k).finish v) (cs ++ cs0) w')) : OutOk Κ P B G σ s rd fn m cs0 w (putV s1 x) := by
 unfold putV
 split
 ·rename_i fr hf
  intro hfresh
  obtain ⟨τ, w', v, h1, h2, h3, h4⟩ := hrel hfresh
  rw [hfr] at hf
  obtain ⟨a', k', e, h5, h6, h7, h8⟩ := finish_ok (h.fr.mono h2.sub) hret hf h3
  refine ⟨τ, ro, a', k', cs, w', ?_, ⟨h5, ?_, h1, Nat.le_trans h.big h2.size, ?_⟩, h2⟩
  ·rw [mkF_run (by exact h6), ← e]; exact h4
  ·simp only [hcs]; exact h.cs.mono h2.sub
  ·have := botF_congr (f := s.fr) (f' := fr) h7 h8 s.cs
   simp only [hcs]
   exact ⟨this.1.trans h.bot.1, this.2.trans h.bot.2⟩
 ·trivial
theorem goes_push (h : RSt Κ B G σ s rd fn ro a k cs w) {f1 fr' : Fr} {ro' : Option Nat} {a' a1 : Act} {k' k1 : List Item} (hcs : s1.cs = s.cs) (hrel : Rel B G τ s1.hp w') (hext : Ext σ τ s.hp s1.hp s.nx s1.nx w w')
  (h1 : RF Κ τ f1 ro a1 k1) (h1r : f1.ret = false) (h1d : f1.rd = s.fr.rd) (h1f : f1.fn = s.fr.fn) (h2 : RF Κ τ fr' ro' a' k') (h2r : fr'.ret = false)
  (hst : Steps P m (lone ((bF fr'.fn ro').atR a' k') ((bF s.fr.fn ro).atR a1 k1 :: (cs ++ cs0)) w')) :
  Goes Κ P B G σ s rd fn m cs0 w { s1 with fr := fr', cs := f1 :: s1.cs } := by
 refine ⟨τ, ro', a', k', (bF f1.fn ro).atR a1 k1 :: cs, w', ?_, ⟨h2, ?_, hrel, Nat.le_trans h.big hext.size, ?_⟩, hext⟩
 ·rw [mkF_run (by exact h2r), h1f]; exact hst
 ·simp only [hcs]; exact .cons h1 h1r (h.cs.mono hext.sub)
 ·have := botF_congr (f := s.fr) (f' := f1) h1d h1f s.cs
  simp only [hcs]
  exact ⟨this.1.trans h.bot.1, this.2.trans h.bot.2⟩
theorem goes_pop (h : RSt Κ B G σ s rd fn ro a k cs w) {c c' : Fr} {fs : List Fr} {x : AV} {v : Value} (hcs : s.cs = c :: fs) (hf : finishA c x = some c') (hrel : Rel B G τ s1.hp w') (hext : Ext σ τ s.hp s1.hp s.nx s1.nx w w') (hv : Rv τ x v)
  (hst : ∀ f cs', cs = f :: cs' → Steps P m (lone (f.finish v) (cs' ++ cs0) w')) :
  Goes Κ P B G σ s rd fn m cs0 w { s1 with fr := c', cs := fs } := by
 have hc := h.cs
 have hbot := h.bot
 rw [hcs] at hc hbot
 cases hc with
 | cons hc hcr ht =>
  obtain ⟨a', k', e, h5, h6, h7, h8⟩ := finish_ok (hc.mono hext.sub) hcr hf hv
  refine ⟨τ, _, a', k', _, w', ?_, ⟨h5, ht.mono hext.sub, hrel, Nat.le_trans h.big hext.size, ?_⟩, hext⟩
  ·rw [mkF_run (by exact h6), ← e]; exact hst _ _ rfl
  ·have := botF_congr (f := c) (f' := c') h7 h8 fs
   exact ⟨this.1.trans hbot.1, this.2.trans hbot.2⟩
theorem Rel.kill {hp : Tr Blk} {id kk z nx : Nat} {b : Blk} (h : Rel B G σ hp w) (hb : hp.get id = some b) (hw : b.wr = true) (hs : σ id = some (kk, z))
  (hsz : w'.heap.size = w.heap.size) (hoth : ∀ j, j ≠ kk → w'.heap[j]? = w.heap[j]?) (hos : w'.os = w.os) (htape : w'.tape = w.tape) (hout : w'.output = w.output) :
  Rel B G σ (hp.set id none) w' ∧ Ext σ σ hp (hp.set id none) nx nx w w' := by
 have hne : ∀ j c kj zj, j ≠ id → hp.get j = some c → σ j = some (kj, zj) → kj ≠ kk := by
  intro j c kj zj hj hc hsj e; subst e; exact hj (h.inj j id c b kj zj z hc hb hsj hs)
 have hg : ∀ j c, (hp.set id none).get j = some c → j ≠ id ∧ hp.get j = some c := fun j c hc => by
  by_cases hj : j = id
  ·subst hj; rw [Tr.get_set_same] at hc; cases hc
  ·rw [Tr.get_set_other _ _ hj] at hc; exact ⟨hj, hc⟩
 refine ⟨⟨fun j c hc => ?_, fun i j c d k zi zj hc hd => h.inj i j c d k zi zj (hg i c hc).2 (hg j d hd).2, h.gl⟩,
  ⟨.refl σ, fun _ _ h => .inl h, Nat.le_refl _, hos, htape, hout, Nat.le_of_eq hsz.symm, fun j _ hn => hoth j fun e => ?_, fun i c k z hc hs => .inl ⟨i, c, z, (hg i c hc).2, hs, fun e => e⟩⟩⟩
 ·obtain ⟨hj, hc⟩ := hg j c hc
  obtain ⟨kj, zj, oj, hsj, hoj, hrj, hBj⟩ := h.blk j c hc
  exact ⟨kj, zj, oj, hsj, by rw [hoth _ (hne j c kj zj hj hc hsj)]; exact hoj, hrj, hBj⟩
 ·subst e
  have := hn id b z hb hs; rw [hw] at this; cases this
theorem not_defer {tm : Tr AV} {hp : Tr Blk} {nx : Nat} {o : Oper} {r : R} (h : aop P G tm hp nx o = some r) (c : Call) : o.op ≠ .defer c := fun e => by simp [aop, aopM, e] at h
theorem callA_ok {X : FuncId → Option ExtK} (hN : NoNum P) (hX : XOk P X) (h : RSt Κ B G σ s rd fn ro a k cs w) (hret : s.fr.ret = false) {ops : Array Oper} {i : Nat} {rest : List Nat} {o : Oper} {kt : List Item} (hk : k = .inRegion ops (i :: rest) :: kt)
  (ho : ops[i]? = some o) (hw : Region.wanted o (yielded ops a.tmps) = true) {c : Call} (hop : o.op = .call c) {ck : Callk} (hc : calleeA P G s.fr.tm c = some ck) :
  OutOk Κ P B G σ s rd fn (lone ((bF s.fr.fn ro).atR a k) (cs ++ cs0) w) cs0 w (callA P G X s ck) := by
 have hd : ∀ c', o.op ≠ .defer c' := fun c' e => by rw [hop] at e; cases e
 obtain ⟨g1, g2⟩ := callee_ok h.rel h.fr.tm hop hc
 subst hk
 unfold callA
 split
 ·rename_i g args
  obtain ⟨vs, hvs, hrun⟩ := g1 g args rfl
  split
  ·rename_i r hr
   refine putV_ok h hret rfl rfl fun hf => ?_
   obtain ⟨τ, w', v, h1, h2, h3, h4⟩ := extO_ok hX h.rel h.big hvs hr hf ((bF s.fr.fn ro).atR a (.inRegion ops (i :: rest) :: kt) :: (cs ++ cs0))
   exact ⟨τ, w', v, h3, h4, h2, step_ext hN ho hw hd hrun h1⟩
  ·split
   ·rename_i fr' hfr
    obtain ⟨fnn, cc, a', h1, h2, h3, h4, h5, h6, h7⟩ := enter_ok hfr hvs
    intro _
    refine goes_push (s1 := s) h rfl h.rel (.refl ..) h.fr hret rfl rfl h4 h5 ?_
    rw [← h3]
    exact .one (step_enter ho hw hd (by rw [hrun]; exact run_callFunc_enter hN h1 h2 vs))
   ·trivial
 ·rename_i id args
  obtain ⟨b, z, vs, hσ, hvs, hrun⟩ := g2 id args rfl
  split
  ·rename_i fr' hfr
   obtain ⟨l, f, tmps, asg, body, a', k', h1, h2, h3, h4, h5⟩ := round_ok (P := P) h.rel hfr hσ hvs
   intro _
   refine goes_push (s1 := s) h rfl h.rel (.refl ..) h.fr hret rfl rfl h3 h4 ?_
   rw [← h2]
   exact .one (step_round ho hw hd (by rw [hrun]; exact h1))
  ·trivial
theorem operA_ok {X : FuncId → Option ExtK} (hN : NoNum P) (hX : XOk P X) (h : RSt Κ B G σ s rd fn ro a k cs w) (hret : s.fr.ret = false) {ops : Array Oper} {i : Nat} {rest : List Nat} {o : Oper} {kt : List Item} (hk : k = .inRegion ops (i :: rest) :: kt)
  (ho : ops[i]? = some o) (hw : Region.wanted o (yielded ops a.tmps) = true) :
  OutOk Κ P B G σ s rd fn (lone ((bF s.fr.fn ro).atR a k) (cs ++ cs0) w) cs0 w (operA P G X s o) := by
 unfold operA
 split
 ·rename_i r hr
  refine putV_ok h hret rfl rfl fun hf => ?_
  obtain ⟨τ, w', v, h1, h2, h3, h4⟩ := aop_ok h.rel h.big h.fr.tm hr hf
  subst hk
  exact ⟨τ, w', v, h3, h4, h2, .one (step_value ho hw (not_defer hr) h1)⟩
 ·split
  ·rename_i c hop
   split
   ·rename_i ck hc
    exact callA_ok hN hX h hret hk ho hw hop hc
   ·trivial
  ·rename_i it isS hop
   split
   ·rename_i l hpk
    rcases pickO_ok (P := P) h.rel h.fr.tm hop hpk with h0 | ⟨r, hr, _, τ, w', v, h1, h2, h3, h4⟩
    ·exact .inl h0
    ·refine .inr ⟨r, hr, fun s1 hs1 => ?_⟩
     have hd : ∀ c', o.op ≠ .defer c' := fun c' e => by rw [hop] at e; cases e
     have key : OutOk Κ P B G σ s rd fn (lone ((bF s.fr.fn ro).atR a k) (cs ++ cs0) w) cs0 w (putV ((apartS s).turn r.dl r.nx) r.v) := by
      refine putV_ok h hret rfl rfl fun hf => ?_
      subst hk
      exact ⟨τ, w', v, h3, h4, h2, .one (step_value ho hw hd h1)⟩
     rw [hs1] at key
     exact key
   ·trivial
  ·trivial
theorem run_endRound {b : Nat} {L : Loop} (hh : w.heap[b]? = some (.loop L)) (jump : Option Code) :
  (Instr.endRound b jump).run P w = .ok (.bool jump.isNone) { w with heap := w.heap.setIfInBounds b (.loop { L with state := if jump.isNone then .ready else .done, pending := jump }) } := by
 have h1 : (getObj b).run P w = .ok (.loop L) w := by simp [getObj, Sem.run, hh]
 have h2 : ∀ o, (setObj b o).run P w = .ok () { w with heap := w.heap.setIfInBounds b o } := fun o => by simp [setObj, Sem.run, hh]
 simp only [Instr.endRound, Instr.getLoop, Sem.run_bind, h1, Result.andThen_ok, Sem.run_pure, h2]
theorem loop_turn {hp : Tr Blk} {id b z : Nat} {st st' : LoopState} {pend pend' : Option Code} {f : FuncId} {sz : Nat} {tm : Tr AV} {ps : List Tmp} {asg body : Code} {df nx : Nat} (hr : Rel B G σ hp w) (hg : hp.get id = some (.loop st pend f sz tm ps asg body df)) (hs : σ id = some (b, z)) :
  ∃ L : Loop, w.heap[b]? = some (.loop L) ∧ L.state = st ∧ L.pending = pend ∧
   Rel B G σ (hp.set id (some (.loop st' pend' f sz tm ps asg body df))) { w with heap := w.heap.setIfInBounds b (.loop { L with state := st', pending := pend' }) } ∧
   Ext σ σ hp (hp.set id (some (.loop st' pend' f sz tm ps asg body df))) nx nx w { w with heap := w.heap.setIfInBounds b (.loop { L with state := st', pending := pend' }) } := by
 obtain ⟨k, z', o, hs', hk, hro, _⟩ := hr.blk id _ hg
 rw [hs] at hs'; simp at hs'; obtain ⟨rfl, rfl⟩ := hs'
 cases hro with
 | loop _ _ _ _ _ ps' _ _ _ d zd tmps ht hd =>
  have hlt : b < w.heap.size := (Array.getElem?_eq_some_iff.1 hk).1
  obtain ⟨g1, g2⟩ := hr.set (w' := { w with heap := w.heap.setIfInBounds b (.loop { state := st', pending := pend', fn := f, tmps, params := ps', assign := asg, body, defers := d }) }) (nx := nx)
   hg rfl hs (o' := .loop { state := st', pending := pend', fn := f, tmps, params := ps', assign := asg, body, defers := d }) (by simp [hlt]) (.loop st' pend' f sz tm ps' asg body df d zd tmps ht hd) rfl (by simp) (fun j hj => by simp [Array.getElem?_setIfInBounds_ne (Ne.symm hj)]) rfl rfl rfl
  exact ⟨_, hk, rfl, rfl, g1, g2⟩
theorem leaveA_ok (h : RSt Κ B G σ s rd fn ro a k cs w) (hret : s.fr.ret = false) (jump : Option Code)
  (h0 : ro = none → (jump = none ∨ jump = some .ret) → step P (lone ((bF s.fr.fn ro).atR a k) (cs ++ cs0) w) = .next (lone { (bF s.fr.fn ro).atR a k with mode := .returning } (cs ++ cs0) w))
  (h1 : ∀ b c cs' v w', ro = some b → (Instr.endRound b jump).run P w = .ok v w' → step P (lone ((bF s.fr.fn ro).atR a k) (c :: cs') w) = .next (lone (c.finish v) cs' w')) :
  OutOk Κ P B G σ s rd fn (lone ((bF s.fr.fn ro).atR a k) (cs ++ cs0) w) cs0 w (leaveA s jump) := by
 have hrd := h.fr.rd
 unfold leaveA
 split
 ·rename_i hn
  rw [hn] at hrd
  cases hrd
  have key : ∀ (hj : jump = none ∨ jump = some .ret), Goes Κ P B G σ s rd fn (lone ((bF s.fr.fn none).atR a k) (cs ++ cs0) w) cs0 w { s with fr := { s.fr with ret := true } } := by
   intro hj
   refine ⟨σ, none, a, k, cs, w, .one (h0 rfl hj), ⟨⟨h.fr.tm, h.fr.df, fun e => (by cases e), h.fr.rd⟩, h.cs, h.rel, h.big, ?_⟩, .refl ..⟩
   have := botF_congr (f := s.fr) (f' := { s.fr with ret := true }) rfl rfl s.cs
   exact ⟨this.1.trans h.bot.1, this.2.trans h.bot.2⟩
  split
  ·exact fun _ => key (.inl rfl)
  ·exact fun _ => key (.inr rfl)
  ·trivial
 ·rename_i id hid
  rw [hid] at hrd
  cases hrd with
  | some _ b z hs =>
   split
   ·rename_i st pend f sz tm ps asg body df hg
    obtain ⟨L, hh, _, _, g1, g2⟩ := loop_turn (st' := bif jump.isNone then .ready else .done) (pend' := jump) (nx := s.nx) h.rel hg hs
    have hrun := run_endRound (P := P) hh jump
    have hst : (if jump.isNone = true then LoopState.ready else .done) = (bif jump.isNone then .ready else .done) := by cases jump.isNone <;> rfl
    rw [hst] at hrun
    dsimp only
    split
    ·rename_i c fs hcs
     split
     ·rename_i c' hf
      intro _
      refine goes_pop (s1 := s.turn _ s.nx) h hcs hf g1 g2 (.bool _) fun f cs' e => ?_
      subst e
      exact .one (h1 b f (cs' ++ cs0) _ _ rfl hrun)
     ·trivial
    ·rename_i hcs
     intro _
     have hc := h.cs
     have hbot := h.bot
     rw [hcs] at hc hbot
     cases hc
     refine ⟨σ, _, .bool jump.isNone, .bool _, g1, g2, fun c cs' e => ?_, fun e => ?_⟩
     ·subst e
      exact .one (h1 b c cs' _ _ rfl hrun)
     ·have := hbot.1
      simp only [botF, hid, e] at this
      cases this
   ·trivial
end
end Go.Ex
set_option linter.unusedVariables false
set_option linter.unusedSimpArgs false
namespace Go.Ex

section
variable {P : Program} {b : Frame} {a : Act} {k : List Item} {cs : List Frame} {w : World}
theorem stepR_scope {c : Code} : step P (lone (b.atR a (.code (.scope c) :: k)) cs w) = .next (lone (b.atR a (.code c :: .inScope c :: k)) cs w) :=
 step_lone_go (by simp [stepG, stepG.exec, Frame.atR])
theorem stepR_inScope {c : Code} : step P (lone (b.atR a (.inScope c :: k)) cs w) = .next (lone (b.atR a k) cs w) :=
 step_lone_go (by simp [stepG, stepG.exec, Frame.atR])
end

section
variable {Κ : List Item} {P : Program} {B G : Nat} {σ τ : Sg} {s s1 : St} {rd : Option Nat} {fn : FuncId} {ro : Option Nat} {a : Act} {k : List Item} {cs cs0 : List Frame} {w w' : World} {m : Machine}

theorem run_getLoop {b : Nat} {L : Loop} (hh : w.heap[b]? = some (.loop L)) : (getObj b).run P w = .ok (.loop L) w := by simp [getObj, Sem.run, hh]
theorem rangeA_ok (hN : NoNum P) (h : RSt Κ B G σ s rd fn ro a k cs w) (hret : s.fr.ret = false) {g : Operand} {ps : Array Tmp} {asg body : Code} {t : List AI} {kt : List Item} (hk : k = .code (.rangeFunc g ps asg body) :: kt) (ht : RK Κ σ t kt) :
  OutOk Κ P B G σ s rd fn (lone ((bF s.fr.fn ro).atR a k) (cs ++ cs0) w) cs0 w (rangeA P s (ev G s.fr.tm g) ps asg body t) := by
 have hrd := h.fr.rd
 have hev := ev_ok h.rel h.fr.tm g
 subst hk
 unfold rangeA
 split
 ·rename_i f first cap hq
  rw [hq] at hev
  obtain ⟨va, vb, hva, hvb, e⟩ := hev.inv_fn
  have hres : ∀ l w1, (resolve a.eval (rangeCall g l) 0).run P w1 = .ok { target := .fn (.func f) vb.toArray, args := va.toArray ++ #[.func (.yield l) #[] #[]] } w1 := by
   intro l w1
   simp only [resolve, List.map_toArray, List.map_cons, List.map_nil, e, Deferred.ofValue]
   rfl
  split
  ·rename_i hn
   rw [hn] at hrd
   cases hrd
   split
   ·rename_i fr' hfr
    intro hf
    have hf1 : σ s.nx = none := hf _ (Nat.le_refl _) (by show s.nx < s.nx + 2; omega)
    have hf2 : σ (s.nx + 1) = none := hf _ (by omega) (by show s.nx + 1 < s.nx + 2; omega)
    let w1 : World := { w with heap := w.heap.push (.deferred (some [])) }
    obtain ⟨g1, g2⟩ := h.rel.new (z := 0) (nx := s.nx) (b := .dfr) (o := .deferred (some [])) (w' := w1) h.big hf1 .dfr rfl rfl rfl rfl
    have hf2' : (σ.put s.nx (w.heap.size, 0)) (s.nx + 1) = none := by rw [Sg.put_other _ _ (by omega)]; exact hf2
    have hσ1 := Sg.put_same σ s.nx (w.heap.size, 0)
    generalize hσ' : σ.put s.nx (w.heap.size, 0) = σ' at g1 g2 hf2' hσ1
    have hsub2 : Sub σ' (σ'.put (s.nx + 1) (w1.heap.size, 0)) := Sub.put _ hf2'
    let L : Loop := { state := .ready, pending := none, fn := s.fr.fn, tmps := a.tmps, params := ps, assign := asg, body, defers := w.heap.size }
    obtain ⟨k1, k2⟩ := g1.new (z := 0) (nx := s.nx + 1) (b := .loop .ready none s.fr.fn s.fr.sz s.fr.tm ps.toList asg body s.nx) (o := .loop L) (w' := { w1 with heap := w1.heap.push (.loop L) }) (Nat.le_trans h.big g2.size) hf2'
     (.loop _ _ _ _ _ _ _ _ _ _ _ _ ((h.fr.tm.mono g2.sub).mono hsub2) (hsub2 _ _ hσ1)) rfl rfl rfl rfl
    have hσ2 := Sg.put_same σ' (s.nx + 1) (w1.heap.size, 0)
    have hsubA := g2.sub.trans k2.sub
    have hargs : RL (σ'.put (s.nx + 1) (w1.heap.size, 0)) (first ++ [.yl (s.nx + 1)] ++ cap) (va.toArray ++ #[Value.func (.yield w1.heap.size) #[] #[]] ++ vb.toArray).toList := by
     simp only [Array.toList_append]
     exact ((hva.mono hsubA).append (.cons (.yl _ _ _ hσ2) .nil)).append (hvb.mono hsubA)
    obtain ⟨fnn, cc, a', h1, h2, h3, h4, h5, h6, h7⟩ := enter_ok hfr hargs
    refine goes_push (s1 := s.turn _ _) (k1 := .inRangeFunc w1.heap.size :: kt) (a1 := { a with defers := { target := .collected w.heap.size, args := #[] } :: a.defers }) h rfl k1 (g2.trans k2)
     ⟨h.fr.tm.mono hsubA, .cons (k2.sub _ _ hσ1) (h.fr.df.mono hsubA), fun _ => .cons (.inRF _ _ _ hσ2) (ht.mono hsubA), by rw [hn]; exact .none⟩ hret rfl rfl h4 h5 ?_
    rw [← h3]
    refine .one (stepR_rangeFunc (w₁ := { w1 with heap := w1.heap.push (.loop L) }) (l := w1.heap.size) (mark := [{ target := .collected w.heap.size, args := #[] }]) ?_ (hres _ _) ?_)
    ·simp [Instr.enterLoop, bF, w1, L]
     rfl
    ·simp only [invoke]
     exact run_callFunc_enter hN h1 h2 _
   ·trivial
  ·rename_i id hid
   rw [hid] at hrd
   cases hrd with
   | some _ bb zz hs =>
    split
    ·rename_i _ _ _ _ _ _ _ _ d hg
     split
     ·rename_i fr' hfr
      intro hf
      have hf1 : σ s.nx = none := hf _ (Nat.le_refl _) (by show s.nx < s.nx + 1; omega)
      obtain ⟨kb, z', o, hs', hkb, hro, _⟩ := h.rel.blk id _ hg
      rw [hs] at hs'; simp at hs'; obtain ⟨rfl, rfl⟩ := hs'
      cases hro with
      | loop _ _ _ _ _ ps' _ _ _ dd zd tmps htt hd =>
       let L : Loop := { state := .ready, pending := none, fn := s.fr.fn, tmps := a.tmps, params := ps, assign := asg, body, defers := dd }
       have hsub : Sub σ (σ.put s.nx (w.heap.size, 0)) := Sub.put _ hf1
       obtain ⟨k1, k2⟩ := h.rel.new (z := 0) (nx := s.nx) (b := .loop .ready none s.fr.fn s.fr.sz s.fr.tm ps.toList asg body d) (o := .loop L) (w' := { w with heap := w.heap.push (.loop L) }) h.big hf1
        (.loop _ _ _ _ _ _ _ _ _ _ _ _ (h.fr.tm.mono hsub) (hsub _ _ hd)) rfl rfl rfl rfl
       have hσ2 := Sg.put_same σ s.nx (w.heap.size, 0)
       have hargs : RL (σ.put s.nx (w.heap.size, 0)) (first ++ [.yl s.nx] ++ cap) (va.toArray ++ #[Value.func (.yield w.heap.size) #[] #[]] ++ vb.toArray).toList := by
        simp only [Array.toList_append]
        exact ((hva.mono hsub).append (.cons (.yl _ _ _ hσ2) .nil)).append (hvb.mono hsub)
       obtain ⟨fnn, cc, a', h1, h2, h3, h4, h5, h6, h7⟩ := enter_ok hfr hargs
       refine goes_push (s1 := s.turn _ _) (k1 := .inRangeFunc w.heap.size :: kt) (a1 := a) h rfl k1 k2
        ⟨h.fr.tm.mono hsub, h.fr.df.mono hsub, fun _ => .cons (.inRF _ _ _ hσ2) (ht.mono hsub), h.fr.rd.mono hsub⟩ hret rfl rfl h4 h5 ?_
       rw [← h3]
       have hget := run_getLoop (P := P) hkb
       refine .one (stepR_rangeFunc (w₁ := { w with heap := w.heap.push (.loop L) }) (l := w.heap.size) (mark := []) ?_ (hres _ _) ?_)
       ·simp [Instr.enterLoop, Instr.getLoop, bF, L, hget]
       ·simp only [invoke]
        exact run_callFunc_enter hN h1 h2 _
     ·trivial
    ·trivial
 ·trivial
theorem codeA_ok (hN : NoNum P) (h : RSt Κ B G σ s rd fn ro a k cs w) (hret : s.fr.ret = false) {c : Code} {t : List AI} {kt : List Item} (hk : k = .code c :: kt) (ht : RK Κ σ t kt) :
  OutOk Κ P B G σ s rd fn (lone ((bF s.fr.fn ro).atR a k) (cs ++ cs0) w) cs0 w (codeA P G s c t) := by
 have hb : (bF s.fr.fn ro).roundOf = ro := rfl
 have hkn : (bF s.fr.fn ro).kind = .normal := rfl
 cases c with
 | skip => subst hk; exact fun _ => goes_todo h hret (.one stepR_skip) ht
 | label l => subst hk; exact fun _ => goes_todo h hret (.one stepR_label) ht
 | seq x y => subst hk; exact fun _ => goes_todo h hret (.one stepR_seq) (.cons (.code _) (.cons (.code _) ht))
 | cond c x y =>
  subst hk
  have hev := ev_ok h.rel h.fr.tm c
  unfold codeA
  dsimp only
  split
  ·rename_i hq
   rw [hq] at hev
   exact fun _ => goes_todo h hret (.one (stepR_cond hev.inv_bool)) (.cons (.code _) ht)
  ·rename_i hq
   rw [hq] at hev
   exact fun _ => goes_todo h hret (.one (stepR_cond hev.inv_bool)) (.cons (.code _) ht)
  ·trivial
 | block id c => subst hk; exact fun _ => goes_todo h hret (.one stepR_block) (.cons (.code _) (.cons (.inBlock _) ht))
 | loop c => subst hk; exact fun _ => goes_todo h hret (.one stepR_loop) (.cons (.code _) (.cons (.inLoop _) ht))
 | scope c => subst hk; exact fun _ => goes_todo h hret (.one stepR_scope) (.cons (.code _) (.cons (.inScope _) ht))
 | exit id =>
  obtain ⟨h1, h2⟩ := exit_ok (id := id) ht
  unfold codeA
  dsimp only
  split
  ·rename_i l' hl
   obtain ⟨k', hk', hrk⟩ := h1 l' hl
   subst hk
   exact fun _ => goes_todo h hret (.one (stepR_exit hk')) hrk
  ·rename_i hl
   cases hns : noStop t with
   | false => trivial
   | true =>
    refine leaveA_ok h hret (some (.exit id)) (fun _ hj => by rcases hj with e | e <;> cases e) (fun b c cs' v w' hro hrun => ?_)
    subst hk
    exact stepR_round_exit (by rw [hb]; exact hro) hkn (h2 hl hns) hrun
 | goto l =>
  obtain ⟨h1, h2⟩ := goto_ok (t := l) ht
  unfold codeA
  dsimp only
  split
  ·rename_i l' hl
   obtain ⟨k', hk', hrk⟩ := h1 l' hl
   subst hk
   exact fun _ => goes_todo h hret (.one (stepR_goto hk')) hrk
  ·rename_i hl
   cases hns : noStop t with
   | false => trivial
   | true =>
    refine leaveA_ok h hret (some (.goto l)) (fun _ hj => by rcases hj with e | e <;> cases e) (fun b c cs' v w' hro hrun => ?_)
    subst hk
    exact stepR_round_goto (by rw [hb]; exact hro) hkn (h2 hl hns) hrun
 | ret =>
  refine leaveA_ok h hret (some .ret) (fun hro _ => ?_) (fun b c cs' v w' hro hrun => ?_)
  ·subst hk; exact stepR_ret (by rw [hb]; exact hro)
  ·subst hk; exact stepR_round_ret (by rw [hb]; exact hro) hkn hrun
 | region id ops d =>
  cases d with
  | false =>
   subst hk
   refine fun _ => goes_todo h hret (.one stepR_region) (.cons ?_ ht)
   have := RI.inReg (σ := σ) ops 0 ops.toList (by simp)
   rwa [Array.length_toList, ← List.range_eq_range'] at this
  | true => trivial
 | rangeFunc g ps asg body => exact rangeA_ok hN h hret hk ht
 | refuse why => trivial
theorem begA_ok (h : RSt Κ B G σ s rd fn ro a k cs w) (hret : s.fr.ret = false) {t : List AI} {kt : List Item} (hk : k = .beginRound :: kt) (ht : RK Κ σ t kt) :
  OutOk Κ P B G σ s rd fn (lone ((bF s.fr.fn ro).atR a k) (cs ++ cs0) w) cs0 w (begA s t) := by
 have hrd := h.fr.rd
 unfold begA
 split
 ·rename_i id hid
  rw [hid] at hrd
  cases hrd with
  | some _ b z hs =>
   split
   ·rename_i pend f sz tm ps asg body df hg
    obtain ⟨L, hh, h1, h2, g1, g2⟩ := loop_turn (st' := .busy) (pend' := pend) (nx := s.nx) h.rel hg hs
    have hset : ∀ o, (setObj b o).run P w = .ok () { w with heap := w.heap.setIfInBounds b o } := fun o => by simp [setObj, Sem.run, hh]
    subst hk
    intro _
    refine goes_todo_heap (s1 := s.turn _ s.nx) h hret rfl rfl g1 g2 (.one (stepR_beginRound rfl ?_)) ht
    have e : ({ L with state := .busy, pending := pend } : Loop) = { L with state := .busy } := by rw [← h2]
    rw [e]
    simp only [Instr.beginRound, Instr.getLoop, Sem.run_bind, run_getLoop hh, Result.andThen_ok, Sem.run_pure, hset, h1]
   ·trivial
 ·trivial
theorem endRFA_ok (h : RSt Κ B G σ s rd fn ro a k cs w) (hret : s.fr.ret = false) {id b z : Nat} (hs : σ id = some (b, z)) {t : List AI} {kt : List Item} (hk : k = .endRangeFunc b :: kt) (ht : RK Κ σ t kt) :
  OutOk Κ P B G σ s rd fn (lone ((bF s.fr.fn ro).atR a k) (cs ++ cs0) w) cs0 w (endRFA s id t) := by
 unfold endRFA
 split
 ·rename_i st pend f sz tm ps asg body df hg
  split
  ·trivial
  ·rename_i hnb
   obtain ⟨L, hh, h1, h2, g1, g2⟩ := loop_turn (st' := .exhausted) (pend' := pend) (nx := s.nx) h.rel hg hs
   have hset : ∀ o, (setObj b o).run P w = .ok () { w with heap := w.heap.setIfInBounds b o } := fun o => by simp [setObj, Sem.run, hh]
   have e : ({ L with state := .exhausted, pending := pend } : Loop) = { L with state := .exhausted } := by rw [← h2]
   rw [e] at g1 g2
   have hrun : (Instr.endLoop b).run P w = .ok pend { w with heap := w.heap.setIfInBounds b (.loop { L with state := .exhausted }) } := by
    have hne : (L.state == LoopState.busy) = false := by
     rw [h1]
     cases st <;> first | rfl | exact absurd rfl (hnb)
    simp only [Instr.endLoop, Instr.getLoop, Sem.run_bind, run_getLoop hh, Result.andThen_ok, Sem.run_pure, hne, Bool.false_eq_true, if_false, hset, h2]
   subst hk
   intro _
   refine goes_todo_heap (s1 := s.turn _ s.nx) h hret rfl rfl g1 g2 (.one (stepR_endRangeFunc hrun)) ?_
   cases pend with
   | none => exact ht
   | some c => exact .cons (.code _) ht
 ·trivial
theorem retA_ok (h : RSt Κ B G σ s rd fn ro a k cs w) (hret : s.fr.ret = true) :
  OutOk Κ P B G σ s rd fn (lone (mkF s.fr ro a k) (cs ++ cs0) w) cs0 w (retA P s) := by
 have hdf := h.fr.df
 have hmode : (mkF s.fr ro a k).mode = .returning := by simp [mkF, hret]
 unfold retA
 split
 ·rename_i d ds hd
  rw [hd] at hdf
  obtain ⟨ad, hade⟩ : ∃ ad, a.defers = ad := ⟨_, rfl⟩
  rw [hade] at hdf
  cases hdf with
  | cons hs ht =>
   rename_i b z dl
   split
   ·rename_i hg
    obtain ⟨k', z', o, hs', hh, hro, _⟩ := h.rel.blk d _ hg
    rw [hs] at hs'; simp at hs'; obtain ⟨rfl, rfl⟩ := hs'
    cases hro
    obtain ⟨g1, g2⟩ := Rel.kill (nx := s.nx) (w' := { w with heap := w.heap.setIfInBounds b (.deferred none) }) h.rel hg rfl hs (by simp) (fun j hj => by simp [Array.getElem?_setIfInBounds_ne (Ne.symm hj)]) rfl rfl rfl
    have hrun : (Instr.takeDeferred b).run P w = .ok [] { w with heap := w.heap.setIfInBounds b (.deferred none) } := by
     have h1 : (getObj b).run P w = .ok (.deferred (some [])) w := by simp [getObj, Sem.run, hh]
     have h2 : ∀ o, (setObj b o).run P w = .ok () { w with heap := w.heap.setIfInBounds b o } := fun o => by simp [setObj, Sem.run, hh]
     simp only [Instr.takeDeferred, Sem.run_bind, h1, Result.andThen_ok, h2, Sem.run_pure]
    intro _
    refine ⟨σ, ro, { a with defers := dl }, k, cs, _, .one (step_lone_go ?_), ⟨⟨h.fr.tm, ht, fun e => ?_, h.fr.rd⟩, h.cs, g1, Nat.le_trans h.big g2.size, ?_⟩, g2⟩
    ·simp [stepG, unwind, mkF, hret, Frame.atR, hade, Sem.runT_eq, hrun]
    ·exact absurd (show s.fr.ret = false from e) (by rw [hret]; simp)
    ·have := botF_congr (f := s.fr) (f' := { s.fr with df := ds }) rfl rfl s.cs
     exact ⟨this.1.trans h.bot.1, this.2.trans h.bot.2⟩
   ·trivial
 ·rename_i hd
  rw [hd] at hdf
  split
  ·rename_i fnn hfn
   split
   ·rename_i x hx
    obtain ⟨v, hv, hxv⟩ := results_ok (P := P) h.rel h.fr.tm hx
    have hdn : a.defers = [] := by
     generalize a.defers = ad at hdf
     cases hdf; rfl
    have hleave : (mkF s.fr ro a k).leaving P w (.returned v) := ⟨hmode, by simp [mkF, Frame.atR, hdn], rfl, fnn, hfn, hv⟩
    split
    ·rename_i hcs
     intro _
     have hc := h.cs
     have hbot := h.bot
     rw [hcs] at hc hbot
     cases hc
     exact ⟨σ, w, v, hxv, h.rel, .refl .., fun c cs' e => by subst e; exact .one (step_leave_returned hleave), fun _ => ⟨_, .refl .., hleave, hbot.2⟩⟩
    ·rename_i c fs hcs
     split
     ·rename_i c' hf
      intro _
      exact goes_pop (s1 := s) h hcs hf h.rel (.refl ..) hxv fun f cs' e => by subst e; exact .one (step_leave_returned hleave)
     ·trivial
   ·trivial
  ·trivial
theorem todoA_ok {X : FuncId → Option ExtK} (hN : NoNum P) (hX : XOk P X) (h : RSt Κ B G σ s rd fn ro a k cs w) (hret : s.fr.ret = false) :
  OutOk Κ P B G σ s rd fn (lone ((bF s.fr.fn ro).atR a k) (cs ++ cs0) w) cs0 w (todoA P G X s) := by
 have ht := h.fr.td hret
 unfold todoA
 split
 ·rename_i ops i o rest t htodo
  rw [htodo] at ht
  cases ht with
  | cons hi hkt =>
   cases hi with
   | inReg _ _ _ hd =>
    obtain ⟨hop, hdrop⟩ := drop_head hd
    simp only [List.length_cons, List.range'_succ] at h ⊢
    split
    ·rename_i hw
     exact operA_ok hN hX h hret rfl hop (wanted_ok h.fr.tm hw)
    ·rename_i hw
     refine putV_ok h hret rfl rfl fun _ => ⟨σ, w, undef, h.rel, .refl .., .tup [] [] rfl (by simp), .one ?_⟩
     rw [Frame.finish_atR]
     exact stepR_op_skip (by rw [hop]; simp [wanted_ok h.fr.tm hw])
    ·trivial
 ·rename_i ops i t htodo
  rw [htodo] at ht
  cases ht with
  | cons hi hkt =>
   cases hi with
   | inReg _ _ _ hd => exact fun _ => goes_todo h hret (.one stepR_region_end) hkt
 ·rename_i c t htodo
  rw [htodo] at ht
  cases ht with
  | cons hi hkt => cases hi; exact codeA_ok hN h hret rfl hkt
 ·rename_i id t htodo
  rw [htodo] at ht
  cases ht with
  | cons hi hkt => cases hi; exact fun _ => goes_todo h hret (.one stepR_inBlock) hkt
 ·rename_i c t htodo
  rw [htodo] at ht
  cases ht with
  | cons hi hkt => cases hi; exact fun _ => goes_todo h hret (.one stepR_inScope) hkt
 ·rename_i c t htodo
  rw [htodo] at ht
  cases ht with
  | cons hi hkt => cases hi; exact fun _ => goes_todo h hret (.one stepR_inLoop) (.cons (.code _) (.cons (.inLoop _) hkt))
 ·rename_i t htodo
  rw [htodo] at ht
  cases ht with
  | cons hi hkt => cases hi; exact begA_ok h hret rfl hkt
 ·rename_i id t htodo
  rw [htodo] at ht
  cases ht with
  | cons hi hkt =>
   cases hi with
   | endRF _ b z hs => exact endRFA_ok h hret hs rfl hkt
 ·trivial
 ·rename_i t htodo
  unfold stopA
  split
  ·rename_i hcs
   exact ⟨rfl, hcs, hret, htodo⟩
  ·trivial
 ·rename_i htodo
  rw [htodo] at ht
  cases ht
  refine leaveA_ok h hret none (fun hro _ => stepR_end (by exact hro)) (fun b c cs' v w' hro hrun => stepR_round_end (by exact hro) rfl hrun)
theorem stp_ok {X : FuncId → Option ExtK} (hN : NoNum P) (hX : XOk P X) (h : RSt Κ B G σ s rd fn ro a k cs w) :
  OutOk Κ P B G σ s rd fn (lone (mkF s.fr ro a k) (cs ++ cs0) w) cs0 w (stp P G X s) := by
 unfold stp
 split
 ·rename_i hret; exact retA_ok h hret
 ·rename_i hret; rw [mkF_run hret]; exact todoA_ok hN hX h hret
end
end Go.Ex
