/-
  The abstract machine: operations that turn no memory.
-/
import Derived.Test.YtkidamemnogojaaGreatDoorExSem
import Derived.Laws.Tables
import Derived.Laws.BytesString
import Derived.Laws.Strings
set_option linter.unusedVariables false
set_option linter.unusedSimpArgs false
namespace Go.Ex

/-! ### Numbers -/
theorem fits_wrap {k : IntKind} {n : Int} (h : fits k n = true) : k.wrap n = n := by
  cases k <;> cases n <;> simp [fits, blt_iff] at h <;> simp only [IntKind.wrap, IntKind.signed, IntKind.bits] <;> simp <;> omega
theorem wrapA_eq (k : IntKind) (n : Int) : wrapA k n = k.wrap n := by
  unfold wrapA
  cases h : fits k n
  · rfl
  · exact (fits_wrap h).symm
theorem eqI_eq (a b : Int) : eqI a b = (a == b) := by
  cases a <;> cases b <;> simp only [eqI]
  · rename_i a b
    by_cases h : a = b
    · subst h; simp
    · rw [beq_f h]; simp; omega
  · symm; simp
  · symm; simp
  · rename_i a b
    by_cases h : a = b
    · subst h; simp
    · rw [beq_f h]; symm; simp; exact h
theorem ltI_eq (a b : Int) : ltI a b = decide (a < b) := by
  cases a <;> cases b <;> simp only [ltI]
  · rename_i a b
    by_cases h : a < b
    · rw [blt_iff.2 h]; simp; omega
    · rw [blt_iff_f.2 (by omega)]; simp; omega
  · symm; simp; omega
  · symm; simp; omega
  · rename_i a b
    by_cases h : b < a
    · rw [blt_iff.2 h]; symm; simp; omega
    · rw [blt_iff_f.2 (by omega)]; symm; simp; omega
theorem eqK_iff {a b : IntKind} (h : eqK a b = true) : a = b := by cases a <;> cases b <;> first | rfl | (simp [eqK] at h)

/-! ### Strings -/
theorem ofBA_length (s : ByteArray) : (ofBA s).length = s.size := by
  show (s.data.toList.map UInt8.toNat).length = s.data.size
  simp
theorem map_toNat_inj : ∀ {a b : List UInt8}, a.map UInt8.toNat = b.map UInt8.toNat → a = b := by
  intro a
  induction a with
  | nil => intro b h; cases b <;> first | rfl | (simp at h)
  | cons x a ih =>
    intro b h
    cases b with
    | nil => simp at h
    | cons y b =>
      simp only [List.map_cons, List.cons.injEq] at h
      rw [UInt8.toNat_inj.1 h.1, ih h.2]
theorem ofBA_inj {s t : ByteArray} (h : ofBA s = ofBA t) : s = t := by
  cases s with | mk a => cases t with | mk b =>
  have : a.toList = b.toList := map_toNat_inj h
  rw [Array.ext' this]
theorem ofBA_mk (l : List UInt8) : ofBA ⟨l.toArray⟩ = l.map UInt8.toNat := by simp [ofBA]
theorem ofBA_append (s t : ByteArray) : ofBA (s ++ t) = ofBA s ++ ofBA t := by simp [ofBA]
theorem ofBA_lt (s : ByteArray) : ∀ x ∈ ofBA s, x < 256 := by
  intro x hx
  simp only [ofBA, List.mem_map] at hx
  obtain ⟨y, _, rfl⟩ := hx
  exact y.toNat_lt
theorem eqS_eq : ∀ (a b : List Nat), eqS a b = decide (a = b) := by
  intro a
  induction a with
  | nil => intro b; cases b <;> simp [eqS_nn, eqS_nc, eqS_cn, eqS_cc]
  | cons x a ih =>
    intro b
    cases b with
    | nil => simp [eqS_nn, eqS_nc, eqS_cn, eqS_cc]
    | cons y b =>
      simp only [eqS_nn, eqS_nc, eqS_cn, eqS_cc, ih]
      by_cases h : x = y
      · subst h; simp [beq_t]
      · rw [beq_f h]; simp [h]
theorem eqS_run (s t : ByteArray) : (s.toList == t.toList) = eqS (ofBA s) (ofBA t) := by
  rw [eqS_eq, ByteArray.toList_eq, ByteArray.toList_eq]
  by_cases h : s.data.toList = t.data.toList
  · simp [ofBA, h]
  · have : ofBA s ≠ ofBA t := fun e => h (map_toNat_inj e)
    rw [show (s.data.toList == t.data.toList) = false from by simpa using h]; simp [this]
theorem ltS_map : ∀ (a b : List UInt8), ltS (a.map UInt8.toNat) (b.map UInt8.toNat) = Op.bytesLess a b := by
  intro a
  induction a with
  | nil => intro b; cases b <;> rfl
  | cons x a ih =>
    intro b
    cases b with
    | nil => rfl
    | cons y b =>
      simp only [List.map_cons, ltS_n, ltS_nc, ltS_cc, Op.bytesLess, ih]
      by_cases h : x = y
      · subst h; simp [beq_t]
      · have h' : x.toNat ≠ y.toNat := fun e => h (UInt8.toNat_inj.1 e)
        rw [beq_f h']
        simp only [cond_false]
        by_cases hl : x < y
        · rw [blt_iff.2 (UInt8.lt_iff_toNat_lt.1 hl)]; simp [hl]
        · have : ¬ x.toNat < y.toNat := fun e => hl (UInt8.lt_iff_toNat_lt.2 e)
          rw [blt_iff_f.2 (by omega)]; simp [hl, h]
theorem ltS_run (s t : ByteArray) : Op.bytesLess s.toList t.toList = ltS (ofBA s) (ofBA t) := by
  rw [ByteArray.toList_eq, ByteArray.toList_eq]; exact (ltS_map _ _).symm

section
variable {P : Program} {w : World} {σ : Sg}

/-- A pure operation's run. -/
def Runs (P : Program) (σ : Sg) (w : World) (s : Sem Value) (x : AV) : Prop := ∃ v, s.run P w = .ok v w ∧ Rv σ x v

theorem bits_ok {op : BinOp} {k : IntKind} {a b : Int} {x : AV} (h : bitsA op k a b = some x) : Runs P σ w (Op.intBits op k a b) x := by
  cases op <;> simp only [bitsA, Option.some.injEq] at h <;> first | (subst h; exact ⟨_, rfl, .int _ _⟩) | cases h
theorem nlt_dec (a b : Int) : (!decide (b < a)) = decide (a ≤ b) := by
  by_cases h : a ≤ b
  · have : ¬ b < a := by omega
    simp [h, this]
  · have : b < a := by omega
    simp [h, this]

theorem int_ok {op : BinOp} {k : IntKind} {t : TypeId} {a b : Int} {x : AV} (h : intA op k a b = some x) (h1 : op ≠ .shl) (h2 : op ≠ .shr) : Runs P σ w (binOp op t (.int k a) (.int k b)) x := by
  cases op <;> first | exact absurd rfl h1 | exact absurd rfl h2 | skip
  all_goals simp only [intA] at h
  case add => simp at h; subst h; rw [wrapA_eq]; exact ⟨.int k (k.wrap (a + b)), by simp [binOp, Op.intArith], .int _ _⟩
  case sub => simp at h; subst h; rw [wrapA_eq]; exact ⟨.int k (k.wrap (a - b)), by simp [binOp, Op.intArith], .int _ _⟩
  case mul => simp at h; subst h; rw [wrapA_eq]; exact ⟨.int k (k.wrap (a * b)), by simp [binOp, Op.intArith], .int _ _⟩
  case quo =>
    rcases cond_eq_some h with ⟨_, h⟩ | ⟨hb, h⟩
    · cases h
    · simp at h; subst h; rw [wrapA_eq]; rw [eqI_eq] at hb
      have hb' : b ≠ 0 := by simpa using hb
      exact ⟨.int k (k.wrap (a.tdiv b)), by simp [binOp, Op.intDiv, hb'], .int _ _⟩
  case rem =>
    rcases cond_eq_some h with ⟨_, h⟩ | ⟨hb, h⟩
    · cases h
    · simp at h; subst h; rw [eqI_eq] at hb
      have hb' : b ≠ 0 := by simpa using hb
      exact ⟨.int k (a.tmod b), by simp [binOp, Op.intDiv, hb'], .int _ _⟩
  case eql => simp at h; subst h; rw [eqI_eq]; exact ⟨.bool (a == b), by simp [binOp, Op.intCmp], .bool _⟩
  case neq => simp at h; subst h; rw [eqI_eq]; exact ⟨.bool (a != b), by simp [binOp, Op.intCmp], .bool _⟩
  case lss => simp at h; subst h; rw [ltI_eq]; exact ⟨.bool (decide (a < b)), by simp [binOp, Op.intCmp], .bool _⟩
  case leq => simp at h; subst h; rw [ltI_eq, nlt_dec]; exact ⟨.bool (decide (a ≤ b)), by simp [binOp, Op.intCmp], .bool _⟩
  case gtr => simp at h; subst h; rw [ltI_eq]; exact ⟨.bool (decide (a > b)), by simp [binOp, Op.intCmp], .bool _⟩
  case geq => simp at h; subst h; rw [ltI_eq, nlt_dec]; exact ⟨.bool (decide (a ≥ b)), by simp [binOp, Op.intCmp], .bool _⟩
  all_goals
    obtain ⟨v, hv, hr⟩ := bits_ok (P := P) (σ := σ) (w := w) h
    exact ⟨v, by simpa [binOp] using hv, hr⟩

theorem shift_ok {op : BinOp} {k yk : IntKind} {a b : Int} {x : AV} (h : shiftA op k a b = some x) : Runs P σ w (Op.shift op k a yk b) x := by
  cases b with
  | negSucc n => simp [shiftA] at h
  | ofNat n =>
    have hn : ¬ (Int.ofNat n < 0) := by simp
    cases op <;> simp only [shiftA, Option.some.injEq] at h <;> first
      | (subst h; exact ⟨_, by simp only [Op.shift, if_neg hn, Sem.run_pure]; rfl, .int _ _⟩)
      | cases h

theorem str_ok {op : BinOp} {t : TypeId} {s u : ByteArray} {x : AV} (h : strA op (ofBA s) (ofBA u) = some x) (h1 : op ≠ .shl) (h2 : op ≠ .shr) : Runs P σ w (binOp op t (.string s) (.string u)) x := by
  cases op <;> first | exact absurd rfl h1 | exact absurd rfl h2 | skip
  all_goals simp only [strA] at h
  case add =>
    rcases cond_eq_some h with ⟨hb, h⟩ | ⟨_, h⟩
    · simp at h; subst h
      rw [blt_iff, ofBA_length, ofBA_length] at hb
      refine ⟨.string (s ++ u), ?_, by rw [← ofBA_append]; exact .str _⟩
      have : ¬ (((s.size + u.size : Nat) : Int) > IntKind.i64.max) := by simp [IntKind.max, IntKind.signed, IntKind.bits]; omega
      simp only [binOp, Op.stringOp, if_neg this, Sem.run_pure]
    · cases h
  case eql => simp at h; subst h; exact ⟨.bool _, by simp only [binOp, Op.stringOp, Sem.run_pure, eqS_run], .bool _⟩
  case neq => simp at h; subst h; exact ⟨.bool _, by simp only [binOp, Op.stringOp, Sem.run_pure, eqS_run], .bool _⟩
  case lss => simp at h; subst h; exact ⟨.bool _, by simp only [binOp, Op.stringOp, Sem.run_pure, ltS_run], .bool _⟩
  case leq => simp at h; subst h; exact ⟨.bool (ltS (ofBA s) (ofBA u) || eqS (ofBA s) (ofBA u)), by simp only [binOp, Op.stringOp, Sem.run_pure, ltS_run, eqS_run], .bool _⟩
  case gtr => simp at h; subst h; exact ⟨.bool (!(ltS (ofBA s) (ofBA u) || eqS (ofBA s) (ofBA u))), by simp only [binOp, Op.stringOp, Sem.run_pure, ltS_run, eqS_run], by simpa using Rv.bool _⟩
  case geq => simp at h; subst h; exact ⟨.bool _, by simp only [binOp, Op.stringOp, Sem.run_pure, ltS_run], .bool _⟩
  all_goals cases h

theorem ba_beq (s u : ByteArray) : (s == u) = eqS (ofBA s) (ofBA u) := by
  rw [eqS_eq]
  cases s with | mk a => cases u with | mk b =>
  have h1 : ((ByteArray.mk a) == (ByteArray.mk b)) = (a == b) := rfl
  rw [h1]
  by_cases e : a = b
  · subst e; simp
  · have : ofBA ⟨a⟩ ≠ ofBA ⟨b⟩ := fun e' => e (by injection ofBA_inj e')
    simp [e, this]

/-- '==' on what is plain. -/
theorem eqPtr_spec {e : TypeId} {i o i' o' : Nat} {r : Bool} (h : eqPtr P e i o i' o' = some r) : ∃ n, sizeB P e = some (n + 1) ∧ i' = i ∧ r = Nat.beq o o' := by
  unfold eqPtr at h
  rcases cond_eq_some h with ⟨hb, h'⟩ | ⟨_, h'⟩
  · split at h'
    · rename_i n hn
      simp only [Option.some.injEq] at h'
      exact ⟨n, hn, (beq_iff.1 hb).symm, h'.symm⟩
    · cases h'
  · cases h'
set_option maxHeartbeats 1000000 in
theorem eqP_ok {t : TypeId} {d : TypeDesc} {n : Nat} {x y : AV} {a b : Value} {r : Bool} (ht : P.underlying t = some d) (h : eqP P d x y = some r) (hx : Rv σ x a) (hy : Rv σ y b) :
    (Op.equalIn (n + 1) t a b).run P w = .ok r w := by
  unfold eqP at h
  split at h
  · rw [hx.inv_bool, hy.inv_bool]; simp at h; subst h; simp [Op.equalIn, run_und ht]
  · rw [hx.inv_int, hy.inv_int]
    rcases cond_eq_some h with ⟨hb, h⟩ | ⟨_, h⟩
    · simp at h; subst h; rw [eqK_iff hb, eqI_eq]; simp [Op.equalIn, run_und ht]
    · cases h
  · obtain ⟨s, rfl, rfl⟩ := hx.inv_str; obtain ⟨u, rfl, rfl⟩ := hy.inv_str
    simp at h; subst h
    simp [Op.equalIn, run_und ht, ba_beq]
  · rw [hx.inv_nilp, hy.inv_nilp]; simp at h; subst h; simp [Op.equalIn, run_und ht]
  · rw [hx.inv_nilp]; obtain ⟨_, _, _, rfl⟩ := hy.inv_ptr; simp at h; subst h; simp [Op.equalIn, run_und ht]
  · rw [hy.inv_nilp]; obtain ⟨_, _, _, rfl⟩ := hx.inv_ptr; simp at h; subst h; simp [Op.equalIn, run_und ht]
  · rename_i e i o i' o'
    obtain ⟨b, z, h1, rfl⟩ := hx.inv_ptr
    obtain ⟨b', z', h2, rfl⟩ := hy.inv_ptr
    obtain ⟨n, hz, rfl, rfl⟩ := eqPtr_spec h
    rw [h1] at h2; simp only [Option.some.injEq, Prod.mk.injEq] at h2; obtain ⟨rfl, rfl⟩ := h2
    have hq : ((⟨b, o, none⟩ : Addr) == ⟨b, o', none⟩) = Nat.beq o o' := by
      by_cases ho : o = o'
      · subst ho; rw [beq_t rfl]; simp
      · rw [beq_f ho]; simpa using ho
    simp [Op.equalIn, run_und ht, run_size hz, sameAddr, hq]
  · rw [hx.inv_nils, hy.inv_nils]; simp at h; subst h; simp [Op.equalIn, run_und ht]
  · rw [hx.inv_nils]; obtain ⟨_, _, _, _, rfl⟩ := hy.inv_sl; simp at h; subst h; simp [Op.equalIn, run_und ht]
  · rw [hy.inv_nils]; obtain ⟨_, _, _, _, rfl⟩ := hx.inv_sl; simp at h; subst h; simp [Op.equalIn, run_und ht]
  · rw [hx.inv_nils]; obtain ⟨_, _, rfl⟩ := hy.inv_sle; simp at h; subst h; simp [Op.equalIn, run_und ht]
  · rw [hy.inv_nils]; obtain ⟨_, _, rfl⟩ := hx.inv_sle; simp at h; subst h; simp [Op.equalIn, run_und ht]
  · rw [hx.inv_nilm, hy.inv_nilm]; simp at h; subst h; simp [Op.equalIn, run_und ht]
  · rw [hx.inv_nilm]; obtain ⟨_, _, _, rfl⟩ := hy.inv_map; simp at h; subst h; simp [Op.equalIn, run_und ht]
  · rw [hy.inv_nilm]; obtain ⟨_, _, _, rfl⟩ := hx.inv_map; simp at h; subst h; simp [Op.equalIn, run_und ht]
  · rw [hx.inv_nilf, hy.inv_nilf]; simp at h; subst h; simp [Op.equalIn, run_und ht]
  · rw [hx.inv_nilf]; obtain ⟨_, _, _, _, rfl⟩ := hy.inv_fn; simp at h; subst h; simp [Op.equalIn, run_und ht]
  · rw [hy.inv_nilf]; obtain ⟨_, _, _, _, rfl⟩ := hx.inv_fn; simp at h; subst h; simp [Op.equalIn, run_und ht]
  · rw [hx.inv_nili, hy.inv_nili]; simp at h; subst h; simp [Op.equalIn, run_und ht]
  · rw [hx.inv_nili]; obtain ⟨_, _, rfl⟩ := hy.inv_iface; simp at h; subst h; simp [Op.equalIn, run_und ht]
  · rw [hy.inv_nili]; obtain ⟨_, _, rfl⟩ := hx.inv_iface; simp at h; subst h; simp [Op.equalIn, run_und ht]
  · cases h

theorem eqV_ok {t : TypeId} {n : Nat} {x y : AV} {a b : Value} {r : Bool} (h : eqV P t x y = some r) (hx : Rv σ x a) (hy : Rv σ y b) :
    (Op.equalIn (n + 2) t a b).run P w = .ok r w := by
  unfold eqV at h
  split at h
  · rename_i ms tx vx ty vy ht
    obtain ⟨ux, rx, rfl⟩ := hx.inv_iface; obtain ⟨uy, ry, rfl⟩ := hy.inv_iface
    by_cases e : tx = ty
    · subst e
      simp only [beq_t, cond_true] at h
      split at h
      · rename_i i d hi hd
        rcases cond_eq_some h with ⟨hc, h⟩ | ⟨_, h⟩
        · have hk := eqP_ok (P := P) (w := w) (n := n) hd h rx ry
          rw [Op.equalIn.eq_2]
          generalize Op.equalIn (n + 1) = f at hk ⊢
          simpa [run_und ht, run_info hi, hc] using hk
        · cases h
      · cases h
    · simp only [beq_f e, cond_false, Option.some.injEq] at h; subst h
      simp [Op.equalIn, run_und ht, e]
  · rename_i hund _
    exact eqP_ok hund h hx hy
  · cases h

/-- Something is known of it. -/
def Kn (x : AV) : Prop := x ≠ .junk ∧ x ≠ .one

theorem eqGuard_ok {op : BinOp} {t : TypeId} {x y : Operand} {a b : AV} {va vb : Value} (h : guardA op x y a b = true) (hx : Rv σ a va) (hy : Rv σ b vb) (hab : ¬ ∃ l m, a = .agg l ∧ b = .agg m) (hj : Kn a) (hj' : Kn b) :
    (eqGuard op t x y va vb).run P w = .ok () w := by
  have key : (op = .eql ∨ op = .neq) → (∃ u, va = u ∧ vb = .nilIface ∧ va = .nilIface) → isConstB x || isConstB y = true := by
    rintro hop ⟨_, _, rfl, rfl⟩
    have ea : a = .nili := by cases hx <;> first | rfl | (exact absurd rfl hj.1) | (exact absurd rfl hj.2)
    have eb : b = .nili := by cases hy <;> first | rfl | (exact absurd rfl hj'.1) | (exact absurd rfl hj'.2)
    subst ea; subst eb
    rcases hop with rfl | rfl <;> simpa [guardA] using h
  have hagg : ¬ ((∃ l, va = .agg l) ∧ ∃ m, vb = .agg m) := by
    rintro ⟨⟨_, rfl⟩, ⟨_, rfl⟩⟩
    obtain ⟨l, hl⟩ : ∃ l, a = .agg l := by cases hx <;> first | exact ⟨_, rfl⟩ | (exact absurd rfl hj.1) | (exact absurd rfl hj.2)
    obtain ⟨m, hm⟩ : ∃ m, b = .agg m := by cases hy <;> first | exact ⟨_, rfl⟩ | (exact absurd rfl hj'.1) | (exact absurd rfl hj'.2)
    exact hab ⟨l, m, hl, hm⟩
  have hnil : op = .eql ∨ op = .neq → va = .nilIface → vb = .nilIface → (isConstB x || isConstB y) = true := fun h1 h2 h3 => by
    have := key h1 ⟨_, rfl, h3, h2⟩
    simpa using this
  clear key h hx hy hab hj hj'
  cases op with
  | eql =>
    cases va <;> cases vb <;> first
      | (exfalso; exact hagg ⟨⟨_, rfl⟩, ⟨_, rfl⟩⟩)
      | (have hk := hnil (.inl rfl) rfl rfl
         cases x <;> cases y <;> first | (simp [isConstB] at hk; done) | (simp [eqGuard]; done))
      | (simp [eqGuard]; done)
  | neq =>
    cases va <;> cases vb <;> first
      | (exfalso; exact hagg ⟨⟨_, rfl⟩, ⟨_, rfl⟩⟩)
      | (have hk := hnil (.inr rfl) rfl rfl
         cases x <;> cases y <;> first | (simp [isConstB] at hk; done) | (simp [eqGuard]; done))
      | (simp [eqGuard]; done)
  | _ => simp [eqGuard]

end
end Go.Ex
