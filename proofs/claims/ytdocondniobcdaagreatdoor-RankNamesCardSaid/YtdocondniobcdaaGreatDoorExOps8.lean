/-
  The abstract machine: the last operations; an operation that calls nothing.
-/
import Derived.Test.YtdocondniobcdaaGreatDoorExOps7
namespace Go.Ex

section
variable {P : Program} {B G : Nat} {σ : Sg} {hp : Tr Blk} {nx : Nat} {w : World}

theorem len_ok (hr : Rel B G σ hp w) {t ty : TypeId} {x : AV} {vx : Value} {r : R} (h : doLen P hp nx t x = some r) (hx : Rv σ x vx) : OkV P B G σ hp nx w (Builtin.len_ #[t] ty #[vx]) r := by
  unfold doLen at h
  split at h
  · rename_i hu
    split at h
    · obtain ⟨s, rfl, rfl⟩ := hx.inv_str
      refine .rv hr h ⟨.int .i64 s.size, ?_, by rw [ofBA_length]; exact .int _ _⟩
      simp [Builtin.len_, run_und hu, goInt]
    · cases h
  · rename_i n e hu
    refine .rv hr h ⟨.int .i64 n, ?_, .int _ _⟩
    simp [Builtin.len_, run_und hu, goInt]
  · rename_i e hu
    split at h
    · rw [hx.inv_nils]
      refine .rv hr h ⟨.int .i64 0, ?_, .int _ _⟩
      simp [Builtin.len_, run_und hu, goInt]
    · obtain ⟨a, c, rfl⟩ := hx.inv_sle
      refine .rv hr h ⟨.int .i64 0, ?_, .int _ _⟩
      simp [Builtin.len_, run_und hu, goInt]
    · rename_i id off n cap es
      obtain ⟨b, z, c, _, rfl⟩ := hx.inv_sl
      refine .rv hr h ⟨.int .i64 n, ?_, .int _ _⟩
      simp [Builtin.len_, run_und hu, goInt]
    · cases h
  · rename_i k e hu
    split at h
    · rename_i es hes
      unfold entriesA at hes
      split at hes
      · simp only [Option.some.injEq] at hes; subst hes
        rw [hx.inv_nilm]
        refine .rv hr h ⟨.int .i64 0, ?_, .int _ _⟩
        simp [Builtin.len_, run_und hu, goInt]
      · rename_i id
        split at hes
        · rename_i wr es' c hg
          simp only [Option.some.injEq] at hes; subst hes
          obtain ⟨b, z, hs, rfl⟩ := hx.inv_map
          obtain ⟨kk, z', a, hs', hh, he, _⟩ := hr.map hg
          rw [hs] at hs'; simp at hs'; obtain ⟨rfl, rfl⟩ := hs'
          have hl : es'.length = a.size := by simpa using he.1
          refine .rv hr h ⟨.int .i64 a.size, ?_, by rw [hl]; exact .int _ _⟩
          simp [Builtin.len_, run_und hu, goInt, run_getMap hh]
        · cases hes
      · cases hes
    · cases h
  · cases h

theorem cap_ok (hr : Rel B G σ hp w) {t ty : TypeId} {x : AV} {vx : Value} {r : R} (h : doCap P nx t x = some r) (hx : Rv σ x vx) : OkV P B G σ hp nx w (Builtin.cap_ #[t] ty #[vx]) r := by
  unfold doCap at h
  split at h
  · rename_i e hu
    rw [hx.inv_nils]
    refine .rv hr h ⟨.int .i64 0, ?_, .int _ _⟩
    simp [Builtin.cap_, run_und hu, goInt]
  · rename_i e id off len n es hu
    obtain ⟨b, z, _, rfl⟩ := hx.inv_slc
    refine .rv hr h ⟨.int .i64 n, ?_, .int _ _⟩
    simp [Builtin.cap_, run_und hu, goInt]
  · cases h

theorem maxI_eq (x y : Int) : maxI x y = if y > x then y else x := by
  unfold maxI; rw [ltI_eq]; by_cases h : x < y <;> simp [h]
theorem minI_eq (x y : Int) : minI x y = if y < x then y else x := by
  unfold minI; rw [ltI_eq]; by_cases h : y < x <;> simp [h]
theorem max_fold {k : IntKind} : ∀ {l : List AV} {vs : List Value} {x n : Int}, foldI maxI x l = some n → RL σ l vs → (vs.foldlM Builtin.max2 (.int k x)).run P w = .ok (.int k n) w := by
  intro l
  induction l with
  | nil => intro vs x n h hr; simp [foldI] at h; subst h; rw [hr.of_nil]; simp
  | cons a l ih =>
    intro vs x n h hr
    obtain ⟨v, us, rfl, hx, hr'⟩ := hr.uncons
    unfold foldI at h
    split at h
    · rename_i heq; cases heq
    · rename_i heq; cases heq
      rw [hx.inv_int]
      have := ih h hr'
      rw [maxI_eq] at this
      simp [Builtin.max2, this]
    · cases h
theorem min_fold {k : IntKind} : ∀ {l : List AV} {vs : List Value} {x n : Int}, foldI minI x l = some n → RL σ l vs → (vs.foldlM Builtin.min2 (.int k x)).run P w = .ok (.int k n) w := by
  intro l
  induction l with
  | nil => intro vs x n h hr; simp [foldI] at h; subst h; rw [hr.of_nil]; simp
  | cons a l ih =>
    intro vs x n h hr
    obtain ⟨v, us, rfl, hx, hr'⟩ := hr.uncons
    unfold foldI at h
    split at h
    · rename_i heq; cases heq
    · rename_i heq; cases heq
      rw [hx.inv_int]
      have := ih h hr'
      rw [minI_eq] at this
      simp [Builtin.min2, this]
    · cases h

/-- What an operation gives. -/
def OkN (P : Program) (B G : Nat) (σ : Sg) (hp : Tr Blk) (nx : Nat) (w : World) (s : Sem Next) (r : R) : Prop :=
  ∃ τ w' v, (s.run P w = .ok (.value v) w' ∨ (s.run P w = .ok .skip w' ∧ v = undef)) ∧ Rv τ r.v v ∧ Rel B G τ (app r.dl hp) w' ∧ Ext σ τ hp (app r.dl hp) nx r.nx w w'

theorem okV_n {s : Sem Value} {r : R} (h : OkV P B G σ hp nx w s r) : OkN P B G σ hp nx w (do pure (Next.value (← s))) r := by
  obtain ⟨τ, w', v, h1, h2, h3, h4⟩ := h
  exact ⟨τ, w', v, .inl (by simp [h1]), h2, h3, h4⟩
theorem okU_n {s : Sem Unit} {r : R} (h : OkU P B G σ hp nx w s r) : OkN P B G σ hp nx w (do s; pure Next.skip) r := by
  obtain ⟨τ, w', h1, h2, h3, h4⟩ := h
  exact ⟨τ, w', undef, .inr ⟨by simp [h1], rfl⟩, by rw [h2]; exact .tup [] [] rfl (by simp), h3, h4⟩
theorem runs_n (hr : Rel B G σ hp w) {s : Sem Value} {x : AV} (h : Runs P σ w s x) : OkN P B G σ hp nx w (do pure (Next.value (← s))) ⟨x, [], nx⟩ := okV_n (.pure hr h)
theorem okN_val (hr : Rel B G σ hp w) {x : AV} {v : Value} {r : R} (h : rv nx x = some r) (hx : Rv σ x v) : OkN P B G σ hp nx w (pure (Next.value v)) r := by
  rw [rv_some h]
  exact ⟨σ, w, v, .inl rfl, hx, hr, .refl ..⟩

/-- Operands. -/
theorem ev_ok (hr : Rel B G σ hp w) {sz : Nat} {tm : Tr AV} {a : Act} (ht : RT σ sz tm a.tmps) (x : Operand) : Rv σ (ev G tm x) (a.eval x) := by
  cases x with
  | tmp t =>
    simp only [ev, slot, Act.eval]
    cases h : tm.get t with
    | none => exact .junk _
    | some v =>
      obtain ⟨c, hc, hv⟩ := ht.2 t v h
      simpa [hc] using hv
  | const v =>
    simp only [ev, Act.eval]
    cases h : ofVal v with
    | none => exact .junk _
    | some a => exact ofVal_ok h
  | global g =>
    simp only [ev, Act.eval]
    cases h : Nat.blt g G with
    | false => exact .junk _
    | true =>
      obtain ⟨z, hz⟩ := hr.gl g (blt_iff.1 h)
      exact .ptr g 0 g z hz
  | func f => exact .fn f [] [] [] [] rfl rfl (by simp) (by simp)

theorem evs_ok (hr : Rel B G σ hp w) {sz : Nat} {tm : Tr AV} {a : Act} (ht : RT σ sz tm a.tmps) (xs : Array Operand) : RL σ (evs G tm xs) (xs.map a.eval).toList := by
  unfold evs
  rw [Array.toList_map]
  induction xs.toList with
  | nil => exact .nil
  | cons x l ih => exact .cons (ev_ok hr ht x) ih

theorem RO_map {ev : Operand → AV} {cev : Operand → Value} (he : ∀ x, Rv σ (ev x) (cev x)) (o : Option Operand) : RO σ (o.map ev) (o.map cev) := by
  cases o with
  | none => trivial
  | some x => exact he x

theorem list1 {α : Type} {a : Array α} {x : α} (h : a.toList = [x]) : a = #[x] := by rw [← Array.toArray_toList (xs := a), h]
theorem list2 {α : Type} {a : Array α} {x y : α} (h : a.toList = [x, y]) : a = #[x, y] := by rw [← Array.toArray_toList (xs := a), h]

theorem RL.one {x : AV} {vs : List Value} (h : RL σ [x] vs) : ∃ v, vs = [v] ∧ Rv σ x v := by
  obtain ⟨v, us, rfl, hx, hr⟩ := h.uncons
  rw [hr.of_nil]; exact ⟨v, rfl, hx⟩
theorem RL.two {x y : AV} {vs : List Value} (h : RL σ [x, y] vs) : ∃ v u, vs = [v, u] ∧ Rv σ x v ∧ Rv σ y u := by
  obtain ⟨v, us, rfl, hx, hr⟩ := h.uncons
  obtain ⟨u, rfl, hy⟩ := hr.one
  exact ⟨v, u, rfl, hx, hy⟩

theorem builtin_ok (hr : Rel B G σ hp w) (hB : B ≤ w.heap.size) {b : Builtin} {ts : Array TypeId} {ty : TypeId} {cs : Array Bool} {xs : List AV} {vs : Array Value} {r : R} (hf : Fresh σ nx r.nx)
    (h : doBuiltin P hp nx b ts.toList xs = some r) (hx : RL σ xs vs.toList) : OkN P B G σ hp nx w (builtin b ts ty cs vs) r := by
  unfold doBuiltin at h
  split at h
  · rename_i t u s x h2
    obtain ⟨v, v', hvs, h3, h4⟩ := hx.two
    rw [list2 h2, list2 hvs]
    exact okV_n (append_ok hr hB hf h h3 h4)
  · rename_i t x h2
    obtain ⟨v, hvs, h3⟩ := hx.one
    rw [list1 h2, list1 hvs]
    exact okV_n (len_ok hr h h3)
  · rename_i t x h2
    obtain ⟨v, hvs, h3⟩ := hx.one
    rw [list1 h2, list1 hvs]
    exact okV_n (cap_ok hr h h3)
  · rename_i t u d s h2
    obtain ⟨v, v', hvs, h3, h4⟩ := hx.two
    rw [list2 h2, list2 hvs]
    exact okV_n (copy_ok hr h h3 h4)
  · rename_i t u m k h2
    obtain ⟨v, v', hvs, h3, h4⟩ := hx.two
    rw [list2 h2, list2 hvs]
    exact okV_n (delete_ok hr h h3 h4)
  · rename_i t x h2
    obtain ⟨v, hvs, h3⟩ := hx.one
    rw [list1 h2, list1 hvs]
    exact okV_n (clear_ok hr h h3)
  · rename_i k x l
    obtain ⟨v, us, hvs, h3, h4⟩ := hx.uncons
    split at h
    · rename_i n hn
      refine okV_n (.rv hr h ⟨.int k n, ?_, .int _ _⟩)
      simp only [Builtin.max_, hvs, h3.inv_int]
      exact max_fold hn h4
    · cases h
  · rename_i k x l
    obtain ⟨v, us, hvs, h3, h4⟩ := hx.uncons
    split at h
    · rename_i n hn
      refine okV_n (.rv hr h ⟨.int k n, ?_, .int _ _⟩)
      simp only [Builtin.min_, hvs, h3.inv_int]
      exact min_fold hn h4
    · cases h
  · cases h
end
end Go.Ex
