/-
  The abstract machine: what is called.
-/
import Derived.Test.YtkidamemnogojaaGreatDoorExOps9
import Derived.Lib.Bytealg
set_option linter.unusedVariables false
set_option linter.unusedSimpArgs false
namespace Go.Ex

section
variable {P : Program} {B G : Nat} {σ : Sg} {hp : Tr Blk} {nx : Nat} {w : World}

/-- No function with a body is named as the one that the machine knows by name. -/
def NoNum (P : Program) : Prop := ∀ (f : FuncId) (fn : Func) (c : Code), P.funcs[f]? = some fn → fn.body = some c → fn.name ≠ "runtime.NumGoroutine"

theorem run_callFunc_enter (hN : NoNum P) {g : FuncId} {fn : Func} {c : Code} (hf : P.funcs[g]? = some fn) (hb : fn.body = some c) (args : Array Value) :
    (callFunc g args).run P w = .ok (.enter g args) w := by
  have h1 := hN g fn c hf hb
  simp [callFunc, hf, h1, hb]

theorem method_ok {t : TypeId} {v r : AV} {cv : Value} {name : String} {g : FuncId} (h : methodA P t v name = some (g, r)) (hv : Rv σ v cv) :
    (method (P.types.size + Made.depth) t cv name).run P w = .ok (g, cv) w ∧ r = v := by
  unfold methodA at h
  split at h
  · rename_i i hi
    split at h
    · rename_i m hm
      rcases cond_eq_some h with ⟨he, h'⟩ | ⟨_, h'⟩ <;> clear h
      · have hpath : m.path.toList = [] := by simpa using he
        have hfuel : ∃ n, P.types.size + Made.depth = n + 1 := ⟨P.types.size + (Made.depth - 1), by show P.types.size + Made.depth = _; have : 0 < Made.depth := by decide
                                                                                                    omega⟩
        obtain ⟨n, hn⟩ := hfuel
        rw [hn]
        split at h'
        · rename_i f e hfn hu
          simp only [Option.some.injEq, Prod.mk.injEq] at h'
          obtain ⟨rfl, rfl⟩ := h'
          simp [method, run_info hi, hm, hpath, follow, hfn, receiverAt, run_und hu, Place.get]
        · cases h'
        · rename_i f d hnp hfn hu
          simp only [Option.some.injEq, Prod.mk.injEq] at h'
          obtain ⟨rfl, rfl⟩ := h'
          refine ⟨?_, rfl⟩
          simp only [method, Sem.run_bind, run_info hi, Result.andThen_ok, hm, hpath, follow, Sem.run_pure, hfn, receiverAt, run_und hu]
          cases hu' : d <;> first
            | (subst hu'; exact absurd rfl (hnp _ _ rfl hfn))
            | rfl
        · cases h'
      · cases h'
    · cases h
  · cases h

theorem callee_ok (hr : Rel B G σ hp w) {sz : Nat} {tm : Tr AV} {a : Act} (ht : RT σ sz tm a.tmps) {o : Oper} {c : Call} (ho : o.op = .call c) {k : Callk} (h : calleeA P G tm c = some k) :
    (∀ g args, k = .func g args → ∃ vs : Array Value, RL σ args vs.toList ∧ (execOp a.eval o).run P w = (callFunc g vs).run P w) ∧
    (∀ id args, k = .yield id args → ∃ (b z : Nat) (vs : Array Value), σ id = some (b, z) ∧ RL σ args vs.toList ∧ (execOp a.eval o).run P w = (Instr.yield b vs).run P w) := by
  have hargs := evs_ok hr ht c.args
  unfold calleeA at h
  split at h
  · rename_i f hc
    have hf := ev_ok hr ht f
    split at h
    · rename_i g first cap hq
      rw [hq] at hf
      obtain ⟨va, vb, h1, h2, e⟩ := hf.inv_fn
      simp only [Option.some.injEq] at h; subst h
      refine ⟨fun g' args' he => ?_, fun id args' he => by cases he⟩
      cases he
      refine ⟨va.toArray ++ c.args.map a.eval ++ vb.toArray, ?_, ?_⟩
      · simp only [Array.toList_append]
        exact (h1.append hargs).append h2
      · simp [execOp, ho, resolve, hc, e, Deferred.ofValue, invoke]
    · rename_i id hq
      rw [hq] at hf
      obtain ⟨b, z, hs, e⟩ := hf.inv_yl
      simp only [Option.some.injEq] at h; subst h
      refine ⟨fun g' args' he => (by cases he), fun id' args' he => ?_⟩
      cases he
      refine ⟨b, z, c.args.map a.eval, hs, hargs, ?_⟩
      simp [execOp, ho, resolve, hc, e, Deferred.ofValue, invoke]
    · cases h
  · rename_i x name hc
    have hx := ev_ok hr ht x
    split at h
    · rename_i t v hq
      rw [hq] at hx
      obtain ⟨u, hu, e⟩ := hx.inv_iface
      split at h
      · rename_i g r hm
        simp only [Option.some.injEq] at h; subst h
        obtain ⟨h1, rfl⟩ := method_ok (w := w) hm hu
        refine ⟨fun g' args' he => ?_, fun id args' he => by cases he⟩
        cases he
        refine ⟨#[u] ++ c.args.map a.eval, by rw [Array.toList_append]; exact .cons hu hargs, ?_⟩
        have hex : (c.args.map a.eval).extract 0 c.args.size = c.args.map a.eval := by
          have := Array.extract_size (xs := c.args.map a.eval)
          rwa [Array.size_map] at this
        simp [execOp, ho, resolve, hc, e, invoke, callMethod, h1, Nat.add_comm 1]
        rw [hex]
      · cases h
    · cases h
  · cases h

/-! ### Functions that are known without their bodies -/
/-- A call comes to its end: at once, or by its body. -/
def RunsTo (P : Program) (g : FuncId) (vs : Array Value) (w : World) (v : Value) (w' : World) (cs : List Frame) : Prop :=
  ((callFunc g vs).run P w = .ok (.value v) w' ∨ ((callFunc g vs).run P w = .ok .skip w' ∧ v = undef)) ∨
  ∃ fn c, P.funcs[g]? = some fn ∧ fn.body = some c ∧ ∃ fr, Steps P (lone (Frame.enter P g vs .normal) cs w) (lone fr cs w') ∧ fr.leaving P w' (.returned v)
def OkX (P : Program) (B G : Nat) (σ : Sg) (hp : Tr Blk) (nx : Nat) (w : World) (g : FuncId) (vs : Array Value) (r : R) : Prop :=
  ∀ cs, ∃ τ w' v, RunsTo P g vs w v w' cs ∧ Rv τ r.v v ∧ Rel B G τ (app r.dl hp) w' ∧ Ext σ τ hp (app r.dl hp) nx r.nx w w'
/-- The function is what it is known as. -/
def XOk (P : Program) (X : FuncId → Option ExtK) : Prop := ∀ (g : FuncId) (k : ExtK), X g = some k → ∀ (B G : Nat) (σ : Sg) (hp : Tr Blk) (nx : Nat) (w : World) (args : List AV) (vs : Array Value) (r : R),
  Rel B G σ hp w → B ≤ w.heap.size → RL σ args vs.toList → extA G hp nx k args = some r → Fresh σ nx r.nx → OkX P B G σ hp nx w g vs r
theorem extO_ok {X : FuncId → Option ExtK} (hX : XOk P X) {g : FuncId} {args : List AV} {vs : Array Value} {r : R} (hr : Rel B G σ hp w) (hB : B ≤ w.heap.size) (ha : RL σ args vs.toList) (h : extO G X hp nx g args = some r) (hf : Fresh σ nx r.nx) : OkX P B G σ hp nx w g vs r := by
  unfold extO at h
  split at h
  · rename_i k hk; exact hX g k hk B G σ hp nx w args vs r hr hB ha h hf
  · cases h

theorem count_list (c : UInt8) : ∀ (l : List UInt8), Lib.countByte l c = countS c.toNat (l.map UInt8.toNat) := by
  intro l
  unfold Lib.countByte
  induction l with
  | nil => rfl
  | cons x l ih =>
    simp only [List.map_cons, countS, List.count_cons]
    by_cases h : x = c
    · subst h
      simp only [beq_self_eq_true, if_true, ih, beq_t, cond_true]
    · have hb : (x == c) = false := by simpa using h
      have hn : x.toNat ≠ c.toNat := fun e => h (UInt8.toNat_inj.1 e)
      simp only [hb, ih, beq_f hn, cond_false]; simp

theorem index_list (c : UInt8) : ∀ (l : List UInt8) (i : Nat), (match indexS c.toNat (l.map UInt8.toNat) i with | some j => (j : Int) - i | none => -1) = Lib.indexByte l c ∧ ∀ j, indexS c.toNat (l.map UInt8.toNat) i = some j → i ≤ j := by
  intro l
  induction l with
  | nil => intro i; simp [indexS, Lib.indexByte]
  | cons x l ih =>
    intro i
    simp only [List.map_cons, indexS, Lib.indexByte]
    by_cases h : x = c
    · subst h
      simp only [beq_t, cond_true, beq_self_eq_true, if_true]
      exact ⟨by simp, fun j hj => by simp only [Option.some.injEq] at hj; omega⟩
    · have hb : (x == c) = false := by simpa using h
      have hn : x.toNat ≠ c.toNat := fun e => h (UInt8.toNat_inj.1 e)
      simp only [hb, beq_f hn, cond_false]
      obtain ⟨h1, h2⟩ := ih (i + 1)
      cases hq : indexS c.toNat (l.map UInt8.toNat) (i + 1) with
      | none => rw [hq] at h1; simp only at h1; rw [← h1]; simp
      | some j =>
        have hj := h2 j hq
        rw [hq] at h1; simp only at h1; rw [← h1]
        refine ⟨?_, fun k hk => by simp only [Option.some.injEq] at hk; omega⟩
        have : ((((j : Int) - ((i + 1 : Nat) : Int)) == -1)) = false := by rw [beq_eq_false_iff_ne]; omega
        rw [this]; simp; omega

/-- What the functions are that are known without their bodies. -/
def ExtK.entry : ExtK → Option (Array Value → Sem Value)
  | .count => some Extern.BytealgCount.count
  | .indexByte => some Extern.BytealgIndexByte.indexByte
  | .same => some Extern.AbiNoEscape.same
  | .fbits => some Extern.MathFloatBits.float64frombits
  | .compare => some Extern.BytealgCompare.compare
  | .makeNoZero _ => none
  | _ => none

theorem compare_list : ∀ (a b : List UInt8), Lib.compareBytes a b = (bif eqS (a.map UInt8.toNat) (b.map UInt8.toNat) then 0 else bif ltS (a.map UInt8.toNat) (b.map UInt8.toNat) then -1 else 1) := by
  intro a
  induction a with
  | nil => intro b; cases b <;> rfl
  | cons x a ih =>
    intro b
    cases b with
    | nil => rfl
    | cons y b =>
      simp only [Lib.compareBytes, List.map_cons, eqS_nn, eqS_nc, eqS_cn, eqS_cc, ltS_n, ltS_nc, ltS_cc, ih]
      by_cases h1 : x < y
      · have hn : x.toNat < y.toNat := UInt8.lt_iff_toNat_lt.1 h1
        rw [if_pos h1, beq_f (Nat.ne_of_lt hn), blt_iff.2 hn]; rfl
      · by_cases h2 : y < x
        · have hn : y.toNat < x.toNat := UInt8.lt_iff_toNat_lt.1 h2
          rw [if_neg h1, if_pos h2, beq_f (Nat.ne_of_gt hn), blt_iff_f.2 (Nat.le_of_lt hn)]; rfl
        · have hn1 : ¬ x.toNat < y.toNat := fun e => h1 (UInt8.lt_iff_toNat_lt.2 e)
          have hn2 : ¬ y.toNat < x.toNat := fun e => h2 (UInt8.lt_iff_toNat_lt.2 e)
          rw [if_neg h1, if_neg h2, beq_t (by omega)]; rfl
theorem u8_of {c : Nat} (h : c < 256) : (Int.toNat (Int.ofNat c)).toUInt8.toNat = c := by simp; omega

theorem ext_ok (hr : Rel B G σ hp w) {k : ExtK} {e : Array Value → Sem Value} (hk : k.entry = some e) {args : List AV} {vs : Array Value} {r : R} (ha : RL σ args vs.toList) (h : extA G hp nx k args = some r) : OkV P B G σ hp nx w (e vs) r := by
  unfold extA at h
  split at h
  · rename_i s c
    rcases cond_eq_some h with ⟨hc, h'⟩ | ⟨_, h'⟩ <;> clear h
    · have hc := blt_iff.1 hc
      obtain ⟨v, u, hvs, h1, h2⟩ := ha.two
      rw [list2 hvs]
      obtain ⟨b, rfl, rfl⟩ := h1.inv_str
      rw [h2.inv_int]
      simp only [ExtK.entry, Option.some.injEq] at hk; subst hk
      refine .rv hr h' ⟨_, Lib.run_countString b (.ofNat c) w, ?_⟩
      rw [count_list, u8_of hc]
      exact .int _ _
    · cases h'
  · rename_i s c
    rcases cond_eq_some h with ⟨hc, h'⟩ | ⟨_, h'⟩ <;> clear h
    · have hc := blt_iff.1 hc
      obtain ⟨v, u, hvs, h1, h2⟩ := ha.two
      rw [list2 hvs]
      obtain ⟨b, rfl, rfl⟩ := h1.inv_str
      rw [h2.inv_int]
      simp only [ExtK.entry, Option.some.injEq] at hk; subst hk
      obtain ⟨g1, _⟩ := index_list (Int.toNat (Int.ofNat c)).toUInt8 b.data.toList 0
      rw [u8_of hc] at g1
      have hrun := run_indexByte_string (P := P) b (.ofNat c) w
      rw [Lib.firstIdx_eq, ← g1] at hrun
      split at h'
      · rename_i i hi
        rw [show indexS c (b.data.toList.map UInt8.toNat) 0 = some i from hi] at hrun
        exact .rv hr h' ⟨_, hrun, by simp only [Int.natCast_zero, Int.sub_zero]; exact .int _ _⟩
      · rename_i hi
        rw [show indexS c (b.data.toList.map UInt8.toNat) 0 = none from hi] at hrun
        exact .rv hr h' ⟨_, hrun, .int _ _⟩
    · cases h'
  · obtain ⟨v, hvs, h1⟩ := ha.one
    rw [list1 hvs]
    simp only [ExtK.entry, Option.some.injEq] at hk; subst hk
    exact .rv hr h ⟨v, rfl, h1⟩
  · obtain ⟨v, hvs, h1⟩ := ha.one
    rw [list1 hvs, h1.inv_int]
    simp only [ExtK.entry, Option.some.injEq] at hk; subst hk
    exact .rv hr h ⟨_, rfl, .flt _ _⟩
  · obtain ⟨v, u, hvs, h1, h2⟩ := ha.two
    rw [list2 hvs]
    obtain ⟨b1, rfl, rfl⟩ := h1.inv_str
    obtain ⟨b2, rfl, rfl⟩ := h2.inv_str
    simp only [ExtK.entry, Option.some.injEq] at hk; subst hk
    refine .rv hr h ⟨_, Lib.run_compareString b1 b2 w, ?_⟩
    rw [compare_list]
    exact .int _ _
  · cases hk
  · cases hk
  · cases hk
  · cases hk
  · cases h

/-- A function that is known without its body: what has to be shown of it. -/
theorem XOk.of {X : FuncId → Option ExtK} (h : ∀ g k, X g = some k → (∃ fn e, P.funcs[g]? = some fn ∧ k.entry = some e ∧ (fn.name == "runtime.NumGoroutine") = false ∧ fn.body.isNone = true ∧ Extern.findNext fn = none ∧ Extern.find fn = some e) ∨
    ∀ (B G : Nat) (σ : Sg) (hp : Tr Blk) (nx : Nat) (w : World) (args : List AV) (vs : Array Value) (r : R), Rel B G σ hp w → B ≤ w.heap.size → RL σ args vs.toList → extA G hp nx k args = some r → Fresh σ nx r.nx → OkX P B G σ hp nx w g vs r) : XOk P X := by
  intro g k hk B G σ hp nx w args vs r hr hB ha hx hf
  rcases h g k hk with ⟨fn, e, h1, h2, h3, h4, h5, h6⟩ | h1
  · obtain ⟨τ, w', v, k1, k2, k3, k4⟩ := ext_ok (P := P) hr h2 ha hx
    exact fun _ => ⟨τ, w', v, .inl (.inl (by rw [run_callFunc_extern h1 h3 h4 h5 h6, k1]; rfl)), k2, k3, k4⟩
  · exact h1 B G σ hp nx w args vs r hr hB ha hx hf
end
end Go.Ex
