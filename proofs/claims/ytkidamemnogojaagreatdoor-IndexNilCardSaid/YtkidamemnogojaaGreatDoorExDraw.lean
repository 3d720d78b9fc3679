/-
  The abstract machine: regions that draw: the lists, the edges, the operands.
-/
import Derived.Test.YtkidamemnogojaaGreatDoorExOrder
set_option linter.unusedVariables false
set_option linter.unusedSimpArgs false
namespace Go.Ex

/-! ### What comes before what -/
noncomputable def bfE (acc : Array Nat) (es : List Edge) (s : Nat) : Nat := es.foldl (fun s e => if Region.binds .any e then s ||| 2 ^ e.on ||| acc.getD e.on 0 else s) s
noncomputable def bfL (l : List Oper) (acc : Array Nat) : Array Nat := l.foldl (fun acc o => acc.push (bfE acc o.after.toList 0)) acc

theorem before_eq (ops : Array Oper) : Region.before ops = bfL ops.toList #[] := by
  unfold Region.before bfL bfE
  rw [← Array.foldl_toList]
  simp only [← Array.foldl_toList]

theorem bfE_spec (acc : Array Nat) (j : Nat) : ∀ (es : List Edge) (s : Nat), Nat.testBit (bfE acc es s) j = true → Nat.testBit s j = true ∨ ∃ e ∈ es, Region.binds .any e = true ∧ (j = e.on ∨ Nat.testBit (acc.getD e.on 0) j = true) := by
  intro es
  induction es with
  | nil => intro s h; exact .inl h
  | cons e es ih =>
    intro s h
    simp only [bfE, List.foldl_cons] at h
    rcases ih _ h with h1 | ⟨e', he', h1⟩
    · cases hb : Region.binds .any e with
      | false => rw [hb] at h1; simp only [Bool.false_eq_true, if_false] at h1; exact .inl h1
      | true =>
        rw [hb] at h1
        simp only [if_true, Nat.testBit_or, Bool.or_eq_true, Nat.testBit_two_pow, decide_eq_true_eq] at h1
        rcases h1 with (h1 | h1) | h1
        · exact .inl h1
        · exact .inr ⟨e, by simp, hb, .inl h1.symm⟩
        · exact .inr ⟨e, by simp, hb, .inr h1⟩
    · exact .inr ⟨e', by simp [he'], h1⟩

theorem bfL_keep : ∀ (l : List Oper) (acc : Array Nat) (i : Nat), i < acc.size → (bfL l acc)[i]? = acc[i]? := by
  intro l
  induction l with
  | nil => intro acc i _; rfl
  | cons o l ih =>
    intro acc i hi
    simp only [bfL, List.foldl_cons]
    have := ih (acc.push (bfE acc o.after.toList 0)) i (by simp; omega)
    simp only [bfL] at this
    rw [this, Array.getElem?_push, if_neg (by omega)]

theorem bfL_spec : ∀ (l : List Oper) (acc : Array Nat) (i : Nat) (o : Oper), l[i]? = some o → ∀ j, Nat.testBit ((bfL l acc).getD (acc.size + i) 0) j = true →
    ∃ e ∈ o.after, Region.binds .any e = true ∧ (j = e.on ∨ Nat.testBit ((bfL l acc).getD e.on 0) j = true) := by
  intro l
  induction l with
  | nil => intro acc i o h; simp at h
  | cons x l ih =>
    intro acc i o h j hj
    have he : bfL (x :: l) acc = bfL l (acc.push (bfE acc x.after.toList 0)) := rfl
    rw [he] at hj ⊢
    cases i with
    | zero =>
      simp only [List.getElem?_cons_zero, Option.some.injEq] at h; subst h
      have hk := bfL_keep l (acc.push (bfE acc x.after.toList 0)) acc.size (by simp)
      rw [Nat.add_zero, Array.getD_eq_getD_getElem?, hk] at hj
      simp only [Array.getElem?_push, if_true, Option.getD_some] at hj
      rcases bfE_spec acc j _ _ hj with h1 | ⟨e, he1, he2, he3⟩
      · simp at h1
      · refine ⟨e, by simpa using he1, he2, ?_⟩
        rcases he3 with h1 | h1
        · exact .inl h1
        · right
          rcases Nat.lt_or_ge e.on acc.size with hlt | hge
          · have hk2 := bfL_keep l (acc.push (bfE acc x.after.toList 0)) e.on (by simp; omega)
            rw [Array.getD_eq_getD_getElem?, hk2, Array.getElem?_push, if_neg (by omega), ← Array.getD_eq_getD_getElem?]
            exact h1
          · simp [Array.getElem?_eq_none hge] at h1
    | succ i =>
      simp only [List.getElem?_cons_succ] at h
      have := ih (acc.push (bfE acc x.after.toList 0)) i o h j
      simp only [Array.size_push] at this
      exact this (by rw [show acc.size + 1 + i = acc.size + (i + 1) from by omega]; exact hj)

theorem before_spec (ops : Array Oper) (k : Nat) (o : Oper) (ho : ops[k]? = some o) (j : Nat) (h : Nat.testBit ((Region.before ops).getD k 0) j = true) :
    ∃ e ∈ o.after, Region.binds .any e = true ∧ (j = e.on ∨ Nat.testBit ((Region.before ops).getD e.on 0) j = true) := by
  rw [before_eq] at h ⊢
  have := bfL_spec ops.toList #[] k o (by simpa using ho) j
  simp only [List.size_toArray, List.length_nil, Nat.zero_add] at this
  exact this h

theorem backA_spec (ops : Array Oper) : ∀ (l : List Oper) (i : Nat), backA ops i l = true → ∀ (k : Nat) (o : Oper), l[k]? = some o → ∀ e ∈ o.after, Region.binds .any e = true → e.on < i + k := by
  intro l
  induction l with
  | nil => intro i _ k o h; simp at h
  | cons x l ih =>
    intro i h k o hk e he hb
    simp only [backA] at h
    cases hq : (x.after.toList.all fun e => !Region.binds .any e || Nat.blt e.on i) with
    | false => rw [hq] at h; cases h
    | true =>
      rw [hq] at h
      simp only [cond_true] at h
      cases k with
      | zero =>
        simp only [List.getElem?_cons_zero, Option.some.injEq] at hk; subst hk
        rw [List.all_eq_true] at hq
        have := hq e (by simpa using he)
        rw [hb] at this
        simp only [Bool.not_true, Bool.false_or] at this
        simpa using blt_iff.1 this
      | succ k =>
        have := ih (i + 1) h k o (by simpa using hk) e he hb
        omega
theorem back_of {ops : Array Oper} (h : backA ops 0 ops.toList = true) : Back ops := fun k o ho e he hb => by
  have := backA_spec ops _ _ h k o (by simpa using ho) e he hb
  omega

/-! ### Lists of names -/
theorem apartN_iff {m : List Nat} : ∀ {l : List Nat}, apartN l m = true → ∀ x ∈ l, x ∉ m := by
  intro l
  induction l with
  | nil => simp
  | cons y l ih =>
    intro h x hx
    simp only [apartN] at h
    cases hq : hasN y m with
    | true => rw [hq] at h; cases h
    | false =>
      rw [hq] at h
      rcases List.mem_cons.1 hx with rfl | hx
      · intro hm; rw [hasN_iff.2 hm] at hq; cases hq
      · exact ih h x hx
theorem allGe_iff {n : Nat} : ∀ {l : List Nat}, allGe n l = true → ∀ x ∈ l, n ≤ x := by
  intro l
  induction l with
  | nil => simp
  | cons y l ih =>
    intro h x hx
    simp only [allGe] at h
    cases hq : Nat.ble n y with
    | false => rw [hq] at h; cases h
    | true =>
      rw [hq] at h
      rcases List.mem_cons.1 hx with rfl | hx
      · exact ble_iff.1 hq
      · exact ih h x hx
theorem looseA_iff {b : Nat} {r : Rec} : ∀ {l : List Rec}, r ∈ looseA b l ↔ r ∈ l ∧ Nat.testBit b r.i = false := by
  intro l
  induction l with
  | nil => simp [looseA]
  | cons y l ih =>
    simp only [looseA]
    cases hq : Nat.testBit b y.i with
    | true =>
      simp only [cond_true, ih, List.mem_cons]
      constructor
      · rintro ⟨h1, h2⟩; exact ⟨.inr h1, h2⟩
      · rintro ⟨rfl | h1, h2⟩
        · rw [hq] at h2; cases h2
        · exact ⟨h1, h2⟩
    | false =>
      simp only [cond_false, List.mem_cons, ih]
      constructor
      · rintro (rfl | ⟨h1, h2⟩)
        · exact ⟨.inl rfl, hq⟩
        · exact ⟨.inr h1, h2⟩
      · rintro ⟨rfl | h1, h2⟩
        · exact .inl rfl
        · exact .inr ⟨h1, h2⟩
theorem logsOf_iff {x : Nat} : ∀ {l : List Rec}, x ∈ logsOf l ↔ ∃ r ∈ l, x ∈ r.lg := by
  intro l
  induction l with
  | nil => simp [logsOf]
  | cons y l ih => simp [logsOf, ih]
theorem besideA_iff {ops : Array Oper} {o : Oper} {lg : List Nat} : ∀ {l : List Rec}, besideA ops o lg l = true → ∀ r ∈ l, (match r.ft with | none => ∀ x ∈ lg, r.nx ≤ x | some ft => ∀ x ∈ lg, x ∉ ft) ∧ (∀ x ∈ lg, x ∉ r.lg) ∧ ∃ x, ops[r.i]? = some x ∧ Oper.apart ops x o = true := by
  intro l
  induction l with
  | nil => simp
  | cons y l ih =>
    intro h r hr
    simp only [besideA] at h
    generalize hq : ((match y.ft with | none => allGe y.nx lg | some ft => apartN lg ft) && apartN lg y.lg && (match ops[y.i]? with | some x => Oper.apart ops x o | none => false)) = q at h
    cases q with
    | false => cases h
    | true =>
      rcases List.mem_cons.1 hr with rfl | hr
      · simp only [Bool.and_eq_true] at hq
        refine ⟨?_, apartN_iff hq.1.2, ?_⟩
        · have h1 := hq.1.1
          cases hft : r.ft with
          | none => rw [hft] at h1; exact allGe_iff h1
          | some ft => rw [hft] at h1; exact apartN_iff h1
        · have h2 := hq.2
          split at h2
          · rename_i x hx; exact ⟨x, hx, h2⟩
          · cases h2
      · exact ih h r hr

theorem without_get {x : Nat} : ∀ {l : List Nat} {hp : Tr Blk}, (without l hp).get x = if x ∈ l then none else hp.get x := by
  intro l
  induction l with
  | nil => intro hp; simp [without]
  | cons y l ih =>
    intro hp
    simp only [without, ih, List.mem_cons]
    by_cases h : x ∈ l
    · simp [h]
    · by_cases h2 : x = y
      · subst h2; simp [Tr.get_set_same]
      · simp [h, h2, Tr.get_set_other]
theorem restrictA_get {x : Nat} {b : Blk} {hp : Tr Blk} {ex : List Nat} : ∀ {l : List Nat} {acc : Tr Blk}, (restrictA hp ex l acc).get x = some b → (x ∈ l ∧ x ∉ ex ∧ hp.get x = some b) ∨ acc.get x = some b := by
  intro l
  induction l with
  | nil => intro acc h; exact .inr h
  | cons y l ih =>
    intro acc h
    simp only [restrictA] at h
    cases hq : hasN y ex with
    | true =>
      rw [hq] at h
      rcases ih h with ⟨h1, h2⟩ | h1
      · exact .inl ⟨by simp [h1], h2⟩
      · exact .inr h1
    | false =>
      rw [hq] at h
      rcases ih h with ⟨h1, h2⟩ | h1
      · exact .inl ⟨by simp [h1], h2⟩
      · by_cases e : x = y
        · subst e
          rw [Tr.get_set_same] at h1
          exact .inl ⟨by simp, fun hm => (by rw [hasN_iff.2 hm] at hq; cases hq), h1⟩
        · rw [Tr.get_set_other _ _ e] at h1; exact .inr h1
theorem fromTo_iff {x : Nat} : ∀ {n a : Nat}, x ∈ fromTo a n ↔ a ≤ x ∧ x < a + n := by
  intro n
  induction n with
  | zero => intro a; simp [fromTo]
  | succ n ih => intro a; simp only [fromTo, List.mem_cons, ih]; omega
theorem changes_names {hp : Tr Blk} : ∀ {l : List Nat}, (changes hp l).map (·.1) = l := by
  intro l
  induction l with
  | nil => rfl
  | cons x l ih => simp [changes, ih]
theorem changes_look {hp : Tr Blk} {x : Nat} : ∀ {l : List Nat}, look (changes hp l) x = if x ∈ l then some (hp.get x) else none := by
  intro l
  induction l with
  | nil => simp [changes, look]
  | cons y l ih =>
    simp only [changes, look, ih, List.mem_cons]
    by_cases h : x ∈ l
    · simp [h]
    · by_cases h2 : x = y
      · subst h2; simp [h]
      · simp [h, h2]

/-! ### Operands -/
section
variable {P : Program} {G : Nat} {tm tm' : Tr AV}

theorem ev_congr {o : Oper} {ops : Array Oper} (h : ∀ t, t ∈ o.looksAt ops → tm'.get t = tm.get t) : ∀ x ∈ o.op.operands, ev G tm' x = ev G tm x := by
  intro x hx
  cases x with
  | tmp t =>
    have := h t (List.mem_append_left _ (List.mem_filterMap.2 ⟨.tmp t, by simpa using hx, rfl⟩))
    simp only [ev, evR, slot_eq, this]
  | _ => rfl

theorem parts_congr {ps : Array (Nat × Operand)} (h : ∀ x ∈ ps.map (·.2), ev G tm' x = ev G tm x) : parts G tm' ps = parts G tm ps := by
  unfold parts
  refine List.map_congr_left fun p hp => ?_
  rw [h p.2 (Array.mem_map.2 ⟨p, by simpa using hp, rfl⟩)]
theorem evs_congr {xs : Array Operand} (h : ∀ x ∈ xs, ev G tm' x = ev G tm x) : evs G tm' xs = evs G tm xs := by
  simp only [evs_eq]
  exact List.map_congr_left fun x hx => h x (by simpa using hx)

theorem aop_congr {hp : Tr Blk} {nx : Nat} (o : Oper) (h : ∀ x ∈ o.op.operands, ev G tm' x = ev G tm x) : aop P G tm' hp nx o = aop P G tm hp nx o := by
  obtain ⟨dst, op, type, pos, after, guard⟩ := o
  cases op <;> simp only [Op.operands] at h <;> simp only [aop, aopM]
  case build t ps => rw [parts_congr fun x hx => h x (by simpa using hx)]
  case buildSlice t n ps => rw [parts_congr fun x hx => h x (by simpa using hx)]
  case makeFunc fn first captured =>
    rw [evs_congr (xs := first) fun x hx => h x (by simp [hx]), evs_congr (xs := captured) fun x hx => h x (by simp [hx])]
  case call c =>
    cases hc : c.callee with
    | builtin b => simp only; rw [evs_congr (xs := c.args) fun x hx => h x (by simp [Call.operands, hx])]
    | _ => rfl
  case makeMap t r => cases r <;> simp_all
  case slice t x lo hi mx => cases lo <;> cases hi <;> cases mx <;> simp_all
  all_goals (first | rfl | (simp_all; done))

theorem callee_congr {c : Call} (h : ∀ x ∈ c.operands, ev G tm' x = ev G tm x) : calleeA P G tm' c = calleeA P G tm c := by
  have hargs := evs_congr (G := G) (tm := tm) (tm' := tm') (xs := c.args) fun x hx => h x (by simp [Call.operands, hx])
  unfold calleeA
  cases hc : c.callee with
  | value f => simp only; rw [h f (by simp [Call.operands, hc]), hargs]
  | invoke r n => simp only; rw [h r (by simp [Call.operands, hc]), hargs]
  | builtin b => rfl

theorem wanted_congr {ops : Array Oper} {o : Oper} (h : ∀ t, t ∈ o.looksAt ops → tm'.get t = tm.get t) : wantedA tm' ops o = wantedA tm ops o := by
  unfold wantedA
  cases hg : o.guard with
  | none => rfl
  | some g =>
    obtain ⟨j, want⟩ := g
    simp only
    split
    · rename_i d hd
      have hd' : (ops[j]?).bind (·.dst) = some d := by rw [← Array.getElem?_toList]; exact hd
      rw [h d (by simp [Oper.looksAt, hg, hd'])]
    · rfl
end
end Go.Ex
