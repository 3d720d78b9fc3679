/-
  The abstract machine: the last operations; an operation that calls nothing.
-/
import Derived.Test.YtkidamemnogojaaGreatDoorExUmap
set_option linter.unusedVariables false
set_option linter.unusedSimpArgs false
namespace Go.Ex

section
variable {P : Program} {B G : Nat} {σ : Sg} {hp : Tr Blk} {nx : Nat} {w : World}

theorem len_ok (hr : Rel B G σ hp w) {t ty : TypeId} {x : AV} {vx : Value} {r : R} (h : doLen P hp nx t x = some r) (hx : Rv σ x vx) : OkV P B G σ hp nx w (Builtin.len_ #[t] ty #[vx]) r := by
  unfold doLen at h
  split at h
  · rename_i hu
    split at h
    · obtain ⟨s, rfl, rfl⟩ := hx.inv_str
      refine .rv hr h ⟨.int .i64 s.size, ?_, by rw [ofBA_length]; exact .int _ _⟩
      simp [Builtin.len_, run_und hu, goInt]
    · cases h
  · rename_i n e hu
    refine .rv hr h ⟨.int .i64 n, ?_, .int _ _⟩
    simp [Builtin.len_, run_und hu, goInt]
  · rename_i e hu
    split at h
    · rw [hx.inv_nils]
      refine .rv hr h ⟨.int .i64 0, ?_, .int _ _⟩
      simp [Builtin.len_, run_und hu, goInt]
    · obtain ⟨a, c, rfl⟩ := hx.inv_sle
      refine .rv hr h ⟨.int .i64 0, ?_, .int _ _⟩
      simp [Builtin.len_, run_und hu, goInt]
    · rename_i id off n cap es
      obtain ⟨b, z, c, _, rfl⟩ := hx.inv_sl
      refine .rv hr h ⟨.int .i64 n, ?_, .int _ _⟩
      simp [Builtin.len_, run_und hu, goInt]
    · cases h
  · rename_i k e hu
    split at h
    · rename_i es hes
      unfold entriesA at hes
      split at hes
      · simp only [Option.some.injEq] at hes; subst hes
        rw [hx.inv_nilm]
        refine .rv hr h ⟨.int .i64 0, ?_, .int _ _⟩
        simp [Builtin.len_, run_und hu, goInt]
      · rename_i id
        split at hes
        · rename_i wr es' c hg
          simp only [Option.some.injEq] at hes; subst hes
          obtain ⟨b, z, hs, rfl⟩ := hx.inv_map
          obtain ⟨kk, z', a, hs', hh, he, _⟩ := hr.map hg
          rw [hs] at hs'; simp at hs'; obtain ⟨rfl, rfl⟩ := hs'
          have hl : es'.length = a.size := by simpa using he.1
          refine .rv hr h ⟨.int .i64 a.size, ?_, by rw [hl]; exact .int _ _⟩
          simp [Builtin.len_, run_und hu, goInt, run_getMap hh]
        · cases hes
      · cases hes
    · cases h
  · cases h

theorem cap_ok (hr : Rel B G σ hp w) {t ty : TypeId} {x : AV} {vx : Value} {r : R} (h : doCap P nx t x = some r) (hx : Rv σ x vx) : OkV P B G σ hp nx w (Builtin.cap_ #[t] ty #[vx]) r := by
  unfold doCap at h
  split at h
  · rename_i e hu
    rw [hx.inv_nils]
    refine .rv hr h ⟨.int .i64 0, ?_, .int _ _⟩
    simp [Builtin.cap_, run_und hu, goInt]
  · rename_i e id off len n es hu
    obtain ⟨b, z, _, rfl⟩ := hx.inv_slc
    refine .rv hr h ⟨.int .i64 n, ?_, .int _ _⟩
    simp [Builtin.cap_, run_und hu, goInt]
  · cases h

theorem maxI_eq (x y : Int) : maxI x y = if y > x then y else x := by
  unfold maxI; rw [ltI_eq]; by_cases h : x < y <;> simp [h]
theorem minI_eq (x y : Int) : minI x y = if y < x then y else x := by
  unfold minI; rw [ltI_eq]; by_cases h : y < x <;> simp [h]
theorem max_fold {k : IntKind} : ∀ {l : List AV} {vs : List Value} {x n : Int}, foldI maxI x l = some n → RL σ l vs → (vs.foldlM Builtin.max2 (.int k x)).run P w = .ok (.int k n) w := by
  intro l
  induction l with
  | nil => intro vs x n h hr; simp [foldI] at h; subst h; rw [hr.of_nil]; simp
  | cons a l ih =>
    intro vs x n h hr
    obtain ⟨v, us, rfl, hx, hr'⟩ := hr.uncons
    unfold foldI at h
    split at h
    · rename_i heq; cases heq
    · rename_i heq; cases heq
      rw [hx.inv_int]
      have := ih h hr'
      rw [maxI_eq] at this
      simp [Builtin.max2, this]
    · cases h
theorem min_fold {k : IntKind} : ∀ {l : List AV} {vs : List Value} {x n : Int}, foldI minI x l = some n → RL σ l vs → (vs.foldlM Builtin.min2 (.int k x)).run P w = .ok (.int k n) w := by
  intro l
  induction l with
  | nil => intro vs x n h hr; simp [foldI] at h; subst h; rw [hr.of_nil]; simp
  | cons a l ih =>
    intro vs x n h hr
    obtain ⟨v, us, rfl, hx, hr'⟩ := hr.uncons
    unfold foldI at h
    split at h
    · rename_i heq; cases heq
    · rename_i heq; cases heq
      rw [hx.inv_int]
      have := ih h hr'
      rw [minI_eq] at this
      simp [Builtin.min2, this]
    · cases h

theorem maxF_fold {k : FloatKind} : ∀ {l : List AV} {vs : List Value} {x n : Nat}, foldF (maxF k) x l = some n → RL σ l vs → (vs.foldlM Builtin.max2 (.float k x)).run P w = .ok (.float k n) w := by
  intro l
  induction l with
  | nil => intro vs x n h hr; simp [foldF] at h; subst h; rw [hr.of_nil]; simp
  | cons a l ih =>
    intro vs x n h hr
    obtain ⟨v, us, rfl, hx, hr'⟩ := hr.uncons
    unfold foldF at h
    split at h
    · rename_i heq; cases heq
    · rename_i heq; cases heq
      rw [hx.inv_flt]
      split at h
      · rename_i r hr2
        have := ih h hr'
        unfold maxF at hr2
        split at hr2
        · cases hr2
        all_goals (rename_i ho; simp only [Option.some.injEq] at hr2; subst hr2; simp only [List.foldlM_cons, Builtin.max2, ho, Sem.run_bind, Sem.run_pure, Result.andThen_ok]; exact this)
      · cases h
    · cases h
theorem minF_fold {k : FloatKind} : ∀ {l : List AV} {vs : List Value} {x n : Nat}, foldF (minF k) x l = some n → RL σ l vs → (vs.foldlM Builtin.min2 (.float k x)).run P w = .ok (.float k n) w := by
  intro l
  induction l with
  | nil => intro vs x n h hr; simp [foldF] at h; subst h; rw [hr.of_nil]; simp
  | cons a l ih =>
    intro vs x n h hr
    obtain ⟨v, us, rfl, hx, hr'⟩ := hr.uncons
    unfold foldF at h
    split at h
    · rename_i heq; cases heq
    · rename_i heq; cases heq
      rw [hx.inv_flt]
      split at h
      · rename_i r hr2
        have := ih h hr'
        unfold minF at hr2
        split at hr2
        · cases hr2
        all_goals (rename_i ho; simp only [Option.some.injEq] at hr2; subst hr2; simp only [List.foldlM_cons, Builtin.min2, ho, Sem.run_bind, Sem.run_pure, Result.andThen_ok]; exact this)
      · cases h
    · cases h

/-- What an operation gives. -/
def OkN (P : Program) (B G : Nat) (σ : Sg) (hp : Tr Blk) (nx : Nat) (w : World) (s : Sem Next) (r : R) : Prop :=
  ∃ τ w' v, (s.run P w = .ok (.value v) w' ∨ (s.run P w = .ok .skip w' ∧ v = undef)) ∧ Rv τ r.v v ∧ Rel B G τ (app r.dl hp) w' ∧ Ext σ τ hp (app r.dl hp) nx r.nx w w'

theorem okV_n {s : Sem Value} {r : R} (h : OkV P B G σ hp nx w s r) : OkN P B G σ hp nx w (do pure (Next.value (← s))) r := by
  obtain ⟨τ, w', v, h1, h2, h3, h4⟩ := h
  exact ⟨τ, w', v, .inl (by simp [h1]), h2, h3, h4⟩
theorem okU_n {s : Sem Unit} {r : R} (h : OkU P B G σ hp nx w s r) : OkN P B G σ hp nx w (do s; pure Next.skip) r := by
  obtain ⟨τ, w', h1, h2, h3, h4⟩ := h
  exact ⟨τ, w', undef, .inr ⟨by simp [h1], rfl⟩, by rw [h2]; exact .tup [] [] rfl (by simp), h3, h4⟩
theorem runs_n (hr : Rel B G σ hp w) {s : Sem Value} {x : AV} (h : Runs P σ w s x) : OkN P B G σ hp nx w (do pure (Next.value (← s))) ⟨x, [], nx⟩ := okV_n (.pure hr h)
theorem okN_val (hr : Rel B G σ hp w) {x : AV} {v : Value} {r : R} (h : rv nx x = some r) (hx : Rv σ x v) : OkN P B G σ hp nx w (pure (Next.value v)) r := by
  rw [rv_some h]
  exact ⟨σ, w, v, .inl rfl, hx, hr, .refl ..⟩

/-- Operands. -/
theorem ev_ok (hr : Rel B G σ hp w) {sz : Nat} {tm : Tr AV} {a : Act} (ht : RT σ sz tm a.tmps) (x : Operand) : Rv σ (ev G tm x) (a.eval x) := by
  cases x with
  | tmp t =>
    simp only [ev, evR, slot_eq, Act.eval]
    cases h : tm.get t with
    | none => exact .junk _
    | some v =>
      obtain ⟨c, hc, hv⟩ := ht.2 t v h
      simpa [hc] using hv
  | const v =>
    simp only [ev, evR, constA, Act.eval]
    cases h : ofVal v with
    | none => exact .junk _
    | some a => exact ofVal_ok h
  | global g =>
    simp only [ev, evR, constA, Act.eval]
    cases h : Nat.blt g G with
    | false => exact .junk _
    | true =>
      obtain ⟨z, hz⟩ := hr.gl g (blt_iff.1 h)
      exact .ptr g 0 g z hz
  | func f => exact .fn f [] [] [] [] rfl rfl (by simp) (by simp)

theorem evs_ok (hr : Rel B G σ hp w) {sz : Nat} {tm : Tr AV} {a : Act} (ht : RT σ sz tm a.tmps) (xs : Array Operand) : RL σ (evs G tm xs) (xs.map a.eval).toList := by
  rw [evs_eq]
  rw [Array.toList_map]
  induction xs.toList with
  | nil => exact .nil
  | cons x l ih => exact .cons (ev_ok hr ht x) ih

theorem RO_map {ev : Operand → AV} {cev : Operand → Value} (he : ∀ x, Rv σ (ev x) (cev x)) (o : Option Operand) : RO σ (o.map ev) (o.map cev) := by
  cases o with
  | none => trivial
  | some x => exact he x

theorem list1 {α : Type} {a : Array α} {x : α} (h : a.toList = [x]) : a = #[x] := by rw [← Array.toArray_toList (xs := a), h]
theorem list2 {α : Type} {a : Array α} {x y : α} (h : a.toList = [x, y]) : a = #[x, y] := by rw [← Array.toArray_toList (xs := a), h]

theorem RL.one {x : AV} {vs : List Value} (h : RL σ [x] vs) : ∃ v, vs = [v] ∧ Rv σ x v := by
  obtain ⟨v, us, rfl, hx, hr⟩ := h.uncons
  rw [hr.of_nil]; exact ⟨v, rfl, hx⟩
theorem RL.two {x y : AV} {vs : List Value} (h : RL σ [x, y] vs) : ∃ v u, vs = [v, u] ∧ Rv σ x v ∧ Rv σ y u := by
  obtain ⟨v, us, rfl, hx, hr⟩ := h.uncons
  obtain ⟨u, rfl, hy⟩ := hr.one
  exact ⟨v, u, rfl, hx, hy⟩

theorem data_ok (hr : Rel B G σ hp w) {ts : Array TypeId} {ty : TypeId} {x : AV} {vx : Value} {r : R} (h : doData hp nx x = some r) (hx : Rv σ x vx) : OkV P B G σ hp nx w (Builtin.unsafeSliceData_ ts ty #[vx]) r := by
  unfold doData at h
  split at h
  · rw [hx.inv_nils]
    exact .rv hr h ⟨.pointer none, Lib.run_unsafeSliceData_nil w ts ty 0 0, .nilp⟩
  · rename_i id off len es
    split at h
    · rename_i wr o tt l hg
      rcases cond_eq_some h with ⟨hlt, h'⟩ | ⟨_, h'⟩ <;> clear h
      · have hlt := blt_iff.1 hlt
        obtain ⟨b, z, c, hσ, hcz, rfl⟩ := hx.inv_slo
        obtain ⟨k, z', cc, tc, fr, hs', hk, hz, ho, hl, _, _, _⟩ := hr.cells hg
        rw [hσ] at hs'; simp at hs'; obtain ⟨rfl, rfl⟩ := hs'
        have hc : c ≠ 0 := fun e => by subst e; omega
        exact .rv hr h' ⟨_, Lib.run_unsafeSliceData_row w ts ty _ _ _ hc, .ptr _ _ _ _ hσ⟩
      · cases h'
    · cases h
  · cases h

theorem freeze_heap {P' : Program} (w : World) (b n : Nat) : (w.freeze ⟨b, 0, none⟩ n).heap.size = w.heap.size ∧ (∀ j, j ≠ b → (w.freeze ⟨b, 0, none⟩ n).heap[j]? = w.heap[j]?) ∧
    (w.freeze ⟨b, 0, none⟩ n).os = w.os ∧ (w.freeze ⟨b, 0, none⟩ n).tape = w.tape ∧ (w.freeze ⟨b, 0, none⟩ n).output = w.output := by
  unfold World.freeze
  split
  · exact ⟨rfl, fun _ _ => rfl, rfl, rfl, rfl⟩
  · refine ⟨by simp, fun j hj => ?_, rfl, rfl, rfl⟩
    simp only [Array.getElem?_modify]
    rw [if_neg (Ne.symm hj)]

/-- A writable block turns and is given up. -/
theorem Rel.kill0 {w' : World} {hp : Tr Blk} {id kk z nx : Nat} {b : Blk} (h : Rel B G σ hp w) (hb : hp.get id = some b) (hw : b.wr = true) (hs : σ id = some (kk, z))
    (hsz : w'.heap.size = w.heap.size) (hoth : ∀ j, j ≠ kk → w'.heap[j]? = w.heap[j]?) (hos : w'.os = w.os) (htape : w'.tape = w.tape) (hout : w'.output = w.output) :
    Rel B G σ (hp.set id none) w' ∧ Ext σ σ hp (hp.set id none) nx nx w w' := by
  have hne : ∀ j c kj zj, j ≠ id → hp.get j = some c → σ j = some (kj, zj) → kj ≠ kk := by
    intro j c kj zj hj hc hsj e; subst e; exact hj (h.inj j id c b kj zj z hc hb hsj hs)
  have hg : ∀ j c, (hp.set id none).get j = some c → j ≠ id ∧ hp.get j = some c := fun j c hc => by
    by_cases hj : j = id
    · subst hj; rw [Tr.get_set_same] at hc; cases hc
    · rw [Tr.get_set_other _ _ hj] at hc; exact ⟨hj, hc⟩
  refine ⟨⟨fun j c hc => ?_, fun i j c d k zi zj hc hd => h.inj i j c d k zi zj (hg i c hc).2 (hg j d hd).2, h.gl⟩,
    ⟨.refl σ, fun _ _ h => .inl h, Nat.le_refl _, hos, htape, hout, Nat.le_of_eq hsz.symm, fun j _ hn => hoth j fun e => ?_, fun i c k z hc hs => .inl ⟨i, c, z, (hg i c hc).2, hs, fun e => e⟩⟩⟩
  · obtain ⟨hj, hc⟩ := hg j c hc
    obtain ⟨kj, zj, oj, hsj, hoj, hrj, hBj⟩ := h.blk j c hc
    exact ⟨kj, zj, oj, hsj, by rw [hoth _ (hne j c kj zj hj hc hsj)]; exact hoj, hrj, hBj⟩
  · subst e
    have := hn id b z hb hs; rw [hw] at this; cases this

theorem ofBA_of_nats {b : List Nat} (h : ∀ n ∈ b, n < 256) : ofBA ⟨(b.map UInt8.ofNat).toArray⟩ = b := by
  simp only [ofBA, List.map_map]
  induction b with
  | nil => rfl
  | cons n b ih =>
    simp only [List.map_cons, Function.comp]
    rw [ih fun m hm => h m (by simp [hm])]
    have : (UInt8.ofNat n).toNat = n := by have := h n (by simp); simp; omega
    rw [this]

theorem ustr_ok (hr : Rel B G σ hp w) {pt it ty : TypeId} {x y : AV} {vx vy : Value} {r : R} (h : doUStr P hp nx pt x y = some r) (hx : Rv σ x vx) (hy : Rv σ y vy) : OkV P B G σ hp nx w (Builtin.unsafeString_ #[pt, it] ty #[vx, vy]) r := by
  unfold doUStr at h
  split at h
  · rw [hy.inv_int]
    split at h
    · rw [hx.inv_nilp]
      exact .rv hr h ⟨_, Lib.run_unsafeString_none w pt it ty none, .str .empty⟩
    · obtain ⟨b, z, hσ, rfl⟩ := hx.inv_ptr
      exact .rv hr h ⟨_, Lib.run_unsafeString_none w pt it ty _, .str .empty⟩
    · cases h
  · rename_i n hn0
    rw [hy.inv_int]
    split at h
    · rename_i id
      split at h
      · rename_i e o t l hpt hg
        rcases cond_eq_some h with ⟨hq, h'⟩ | ⟨_, h'⟩ <;> clear h
        · simp only [Bool.and_eq_true] at hq
          have e1 := beq_iff.1 hq.1.1
          subst e1
          have hce := beq_iff.1 hq.1.2
          have hbig := blt_iff.1 hq.2
          split at h'
          · rename_i cs hcs
            split at h'
            · rename_i b hb
              simp only [Option.some.injEq] at h'; subst h'
              obtain ⟨bk, z, hσ, rfl⟩ := hx.inv_ptr
              obtain ⟨k, z', c, tc, fr, hs', hk, hcz, ho, hl, hfz, hc, hBk⟩ := hr.cells hg
              rw [hσ] at hs'; simp at hs'; obtain ⟨rfl, rfl⟩ := hs'
              have htc := hr.cellsT hg hσ hk _ rfl
              subst htc
              obtain ⟨g1, g2, g3⟩ := hc.sub hcs hl
              obtain ⟨e1, e2⟩ := bytes_spec hb g1
              have hlen : b.length = n := by
                have h1 := (sub_spec hcs).1
                have h2 := g1.1
                rw [e1, h1] at h2
                simpa using h2.symm
              have hnc : n ≤ c.size := by rcases g3 with h0 | h0 <;> omega
              have hbl : (b.map UInt8.ofNat) ≠ [] := fun e => by
                have : b = [] := List.map_eq_nil_iff.1 e
                subst this
                simp only [List.length_nil] at hlen
                subst hlen
                exact hn0 rfl
              have hrun := Lib.run_unsafeString_row (P := P) w pt it ty tc hpt hce bk c.size (shape_of hk) (b.map UInt8.ofNat) hbl (by simp [hlen]; exact hnc) (by simp [hlen]; omega) (fun j x hj => by
                rw [addr_add, cell_of hk]
                simp only [List.getElem?_map, Option.map_eq_some_iff] at hj
                obtain ⟨m, hm, rfl⟩ := hj
                have hjn : j < n := by rw [← hlen]; exact (List.getElem?_eq_some_iff.1 hm).1
                have h1 : ((c.toList.drop 0).take n)[j]? = some (.int .u8 (.ofNat m)) := by rw [e1, List.getElem?_map, hm]; rfl
                rw [List.getElem?_take, if_pos hjn, List.getElem?_drop, Array.getElem?_toList] at h1
                have hm2 := e2 m (List.mem_of_getElem? hm)
                have : (UInt8.ofNat m).toNat = m := by simp; omega
                rw [this]
                simpa using h1)
              rw [List.length_map, hlen] at hrun
              obtain ⟨k1, k2, k3, k4, k5⟩ := freeze_heap (P' := P) w bk n
              obtain ⟨q1, q2⟩ := hr.kill0 (nx := nx) hg rfl hσ k1 k2 k3 k4 k5
              refine ⟨σ, _, .string ⟨(b.map UInt8.ofNat).toArray⟩, hrun, ?_, q1, q2⟩
              have := Rv.str (σ := σ) ⟨(b.map UInt8.ofNat).toArray⟩
              rw [ofBA_of_nats e2] at this
              exact this
            · cases h'
          · cases h'
        · cases h'
      · cases h
    · cases h
  · cases h

theorem builtin_ok (hr : Rel B G σ hp w) (hB : B ≤ w.heap.size) {b : Builtin} {ts : Array TypeId} {ty : TypeId} {cs : Array Bool} {xs : List AV} {vs : Array Value} {r : R} (hf : Fresh σ nx r.nx)
    (h : doBuiltin P hp nx b ts.toList xs = some r) (hx : RL σ xs vs.toList) : OkN P B G σ hp nx w (builtin b ts ty cs vs) r := by
  unfold doBuiltin at h
  split at h
  · rename_i t u s x h2
    obtain ⟨v, v', hvs, h3, h4⟩ := hx.two
    rw [list2 h2, list2 hvs]
    exact okV_n (append_ok hr hB hf h h3 h4)
  · rename_i t x h2
    obtain ⟨v, hvs, h3⟩ := hx.one
    rw [list1 h2, list1 hvs]
    rcases orE_some h with h | h
    · exact okV_n (len_ok hr h h3)
    · exact okV_n (lenU_ok hr h h3)
  · rename_i t x h2
    obtain ⟨v, hvs, h3⟩ := hx.one
    rw [list1 h2, list1 hvs]
    exact okV_n (cap_ok hr h h3)
  · rename_i t u d s h2
    obtain ⟨v, v', hvs, h3, h4⟩ := hx.two
    rw [list2 h2, list2 hvs]
    exact okV_n (copy_ok hr h h3 h4)
  · rename_i t u m k h2
    obtain ⟨v, v', hvs, h3, h4⟩ := hx.two
    rw [list2 h2, list2 hvs]
    rcases orE_some h with h | h
    · exact okV_n (delete_ok hr h h3 h4)
    · exact okV_n (deleteU_ok hr h h3 h4)
  · rename_i t x h2
    obtain ⟨v, hvs, h3⟩ := hx.one
    rw [list1 h2, list1 hvs]
    exact okV_n (clear_ok hr h h3)
  · rename_i k x l
    obtain ⟨v, us, hvs, h3, h4⟩ := hx.uncons
    split at h
    · rename_i n hn
      refine okV_n (.rv hr h ⟨.int k n, ?_, .int _ _⟩)
      simp only [Builtin.max_, hvs, h3.inv_int]
      exact max_fold hn h4
    · cases h
  · rename_i k x l
    obtain ⟨v, us, hvs, h3, h4⟩ := hx.uncons
    split at h
    · rename_i n hn
      refine okV_n (.rv hr h ⟨.int k n, ?_, .int _ _⟩)
      simp only [Builtin.min_, hvs, h3.inv_int]
      exact min_fold hn h4
    · cases h
  · rename_i k x l
    obtain ⟨v, us, hvs, h3, h4⟩ := hx.uncons
    split at h
    · rename_i n hn
      refine okV_n (.rv hr h ⟨.float k n, ?_, .flt _ _⟩)
      simp only [Builtin.max_, hvs, h3.inv_flt]
      exact maxF_fold hn h4
    · cases h
  · rename_i k x l
    obtain ⟨v, us, hvs, h3, h4⟩ := hx.uncons
    split at h
    · rename_i n hn
      refine okV_n (.rv hr h ⟨.float k n, ?_, .flt _ _⟩)
      simp only [Builtin.min_, hvs, h3.inv_flt]
      exact minF_fold hn h4
    · cases h
  · rename_i x
    obtain ⟨v, hvs, h3⟩ := hx.one
    rw [list1 hvs]
    exact okV_n (data_ok hr h h3)
  · rename_i pt it x y h2
    obtain ⟨v, v', hvs, h3, h4⟩ := hx.two
    rw [list2 h2, list2 hvs]
    exact okV_n (ustr_ok hr h h3 h4)
  · cases h
end
end Go.Ex
