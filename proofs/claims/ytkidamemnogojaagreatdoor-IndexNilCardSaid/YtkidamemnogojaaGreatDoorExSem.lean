/-
  The abstract machine: lists of cells, and how the model's small steps run.
-/
import Derived.Test.YtkidamemnogojaaGreatDoorExRel
set_option linter.unusedVariables false
set_option linter.unusedSimpArgs false
namespace Go.Ex

theorem cond_eq_some {α : Type} {b : Bool} {x y : Option α} {r : α} (h : (bif b then x else y) = some r) : (b = true ∧ x = some r) ∨ (b = false ∧ y = some r) := by
  cases b
  · exact .inr ⟨rfl, h⟩
  · exact .inl ⟨rfl, h⟩
theorem beq_iff {a b : Nat} : Nat.beq a b = true ↔ a = b := ⟨Nat.eq_of_beq_eq_true, beq_t⟩
theorem beq_iff_f {a b : Nat} : Nat.beq a b = false ↔ a ≠ b := ⟨fun h e => (by rw [beq_t e] at h; cases h), beq_f⟩
theorem blt_iff {a b : Nat} : Nat.blt a b = true ↔ a < b := by simp [Nat.blt, Nat.succ_le_iff]
theorem blt_iff_f {a b : Nat} : Nat.blt a b = false ↔ b ≤ a := by
  cases h : Nat.blt a b
  · simp only [true_iff]; rcases Nat.lt_or_ge a b with h1 | h1
    · rw [blt_iff.2 h1] at h; cases h
    · exact h1
  · simp only [false_iff, Bool.true_eq_false]; have := blt_iff.1 h; omega
theorem ble_iff {a b : Nat} : Nat.ble a b = true ↔ a ≤ b := by simp
theorem ble_iff_f {a b : Nat} : Nat.ble a b = false ↔ b < a := by
  cases h : Nat.ble a b
  · simp only [true_iff]; rcases Nat.lt_or_ge b a with h1 | h1
    · exact h1
    · rw [ble_iff.2 h1] at h; cases h
  · simp only [false_iff, Bool.true_eq_false]; have := ble_iff.1 h; omega

theorem hasN_iff {x : Nat} : ∀ {l : List Nat}, hasN x l = true ↔ x ∈ l := by
  intro l
  induction l with
  | nil => simp [hasN]
  | cons y l ih =>
    simp only [hasN, List.mem_cons]
    by_cases h : x = y
    · simp [beq_t h, h]
    · simp [beq_f h, h, ih]
theorem uniq_mem {x : Nat} : ∀ {l : List Nat}, x ∈ uniq l ↔ x ∈ l := by
  intro l
  induction l with
  | nil => exact Iff.rfl
  | cons y l ih =>
    simp only [uniq, addU]
    cases hq : hasN y (uniq l) with
    | true =>
      simp only [cond_true, List.mem_cons, ih]
      exact ⟨.inr, fun h => by rcases h with rfl | h; exact ih.1 (hasN_iff.1 hq); exact h⟩
    | false => simp only [cond_false, List.mem_cons, ih]
/-! ### Lists of cells -/
theorem takeL_spec : ∀ (n : Nat) (l r : List AV), takeL n l = some r → n ≤ l.length ∧ r = l.take n := by
  intro n
  induction n with
  | zero => intro l r h; simp [takeL_z, takeL_n, takeL_c] at h; subst h; simp
  | succ n ih =>
    intro l r h
    cases l with
    | nil => simp [takeL_z, takeL_n, takeL_c] at h
    | cons x l =>
      simp only [takeL_z, takeL_n, takeL_c] at h
      split at h
      · rename_i r' hr'
        simp only [Option.some.injEq] at h; subst h
        obtain ⟨h1, h2⟩ := ih l r' hr'
        exact ⟨by simpa using h1, by simp [h2]⟩
      · cases h
theorem dropL_eq : ∀ (n : Nat) (l : List AV), dropL n l = l.drop n := by
  intro n
  induction n with
  | zero => intro l; cases l <;> rfl
  | succ n ih => intro l; cases l with
    | nil => rfl
    | cons x l => simp [dropL_z, dropL_n, dropL_c, ih]
theorem sub_spec {l r : List AV} {off n : Nat} (h : sub l off n = some r) : r.length = n ∧ (n = 0 ∨ off + n ≤ l.length) ∧ r = (l.drop off).take n := by
  obtain ⟨h1, h2⟩ := takeL_spec _ _ _ h
  rw [dropL_eq] at h1 h2
  simp at h1
  refine ⟨by rw [h2]; simp; omega, by omega, h2⟩
theorem sub_get {l r : List AV} {off n : Nat} (h : sub l off n = some r) (i : Nat) (hi : i < n) : r[i]? = l[off + i]? := by
  obtain ⟨_, _, h2⟩ := sub_spec h
  rw [h2, List.getElem?_take, if_pos hi, List.getElem?_drop]
theorem putF_spec : ∀ (xs l r : List AV), putF l xs = some r → r.length = l.length ∧ xs.length ≤ l.length ∧ ∀ i : Nat, r[i]? = if i < xs.length then xs[i]? else l[i]? := by
  intro xs
  induction xs with
  | nil => intro l r h; cases l <;> (simp [putF_z, putF_n, putF_c] at h; subst h; simp)
  | cons x xs ih =>
    intro l r h
    cases l with
    | nil => simp [putF_z, putF_n, putF_c] at h
    | cons y l =>
      simp only [putF_z, putF_n, putF_c] at h
      split at h
      · rename_i r' hr'
        simp only [Option.some.injEq] at h; subst h
        obtain ⟨h1, h2, h3⟩ := ih l r' hr'
        refine ⟨by simp [h1], by simpa using h2, fun i => ?_⟩
        cases i with
        | zero => simp
        | succ i => simp [h3 i]
      · cases h
theorem putL_spec : ∀ (n : Nat) (l xs r : List AV), putL n l xs = some r → r.length = l.length ∧ (xs = [] ∨ n + xs.length ≤ l.length) ∧ ∀ i : Nat, r[i]? = if n ≤ i ∧ i < n + xs.length then xs[i - n]? else l[i]? := by
  intro n
  induction n with
  | zero =>
    intro l xs r h
    obtain ⟨h1, h2, h3⟩ := putF_spec xs l r (by simpa [putL_z, putL_nn, putL_nc, putL_c] using h)
    exact ⟨h1, .inr (by omega), fun i => by simp [h3 i]⟩
  | succ n ih =>
    intro l xs r h
    cases l with
    | nil =>
      cases xs with
      | nil => simp [putL_z, putL_nn, putL_nc, putL_c] at h; subst h; simp
      | cons x xs => simp [putL_z, putL_nn, putL_nc, putL_c] at h
    | cons y l =>
      simp only [putL_z, putL_nn, putL_nc, putL_c] at h
      split at h
      · rename_i r' hr'
        simp only [Option.some.injEq] at h; subst h
        obtain ⟨h1, h2, h3⟩ := ih l xs r' hr'
        refine ⟨by simp [h1], by rcases h2 with h2 | h2; exact .inl h2; exact .inr (by simp; omega), fun i => ?_⟩
        cases i with
        | zero => simp
        | succ i =>
          simp only [List.getElem?_cons_succ, h3 i]
          by_cases hc : n ≤ i ∧ i < n + xs.length
          · rw [if_pos hc, if_pos (by omega)]; congr 1; omega
          · rw [if_neg hc, if_neg (by omega)]
      · cases h
theorem repl_length : ∀ (n : Nat) (z : List AV), (repl n z).length = n * z.length := by
  intro n z
  induction n with
  | zero => simp [repl_z, repl_c]
  | succ n ih => simp [repl_z, repl_c, ih, Nat.succ_mul]; omega

/-! ### Memory -/
theorem addr_add (b off n : Nat) : (Addr.add ⟨b, off, none⟩ n) = ⟨b, off + n, none⟩ := by
  unfold Addr.add
  by_cases h : n = 0
  · simp [h]
  · simp [h]

section
variable {P : Program} {w : World}
theorem run_und {t : TypeId} {d : TypeDesc} (h : P.underlying t = some d) : (underlying t).run P w = .ok d w := by simp [underlying, h]
theorem run_info {t : TypeId} {i : TypeInfo} (h : P.info? t = some i) : (typeInfo t).run P w = .ok i w := by simp [typeInfo, h]
theorem run_size {t : TypeId} {n : Nat} (h : sizeB P t = some n) : (sizeOf t).run P w = .ok n w := by
  unfold sizeB at h
  split at h
  · rename_i i hi; simp at h; simp [sizeOf, run_info hi, h]
  · cases h
theorem run_agg {t : TypeId} {b : Bool} (h : isAggB P t = some b) : (isAgg t).run P w = .ok b w := by
  unfold isAggB at h
  split at h
  · rename_i hi; simp at h; simp [isAgg, run_und hi, h]
  · rename_i hi; simp at h; simp [isAgg, run_und hi, h]
  · rename_i d h1 h2 hi
    simp at h; subst h
    simp only [isAgg, Sem.run_bind, run_und hi, Result.andThen_ok]
    cases d <;> first | rfl | (exact absurd rfl (h1 _)) | (exact absurd rfl (h2 _ _))
  · cases h

theorem cell_of {b : Nat} {c : Array Value} {t : TypeId} {fr : Nat × Nat} (h : w.heap[b]? = some (.cells c t fr)) (o : Nat) : w.cell? ⟨b, o, none⟩ = c[o]? := by
  simp [World.cell?, h]
theorem run_load_cell {b : Nat} {c : Array Value} {t : TypeId} {fr : Nat × Nat} (h : w.heap[b]? = some (.cells c t fr)) {o : Nat} {v : Value} (hv : c[o]? = some v) (m : Mode) :
    (load ⟨b, o, none⟩ m).run P w = .ok v w := by simp [run_load, cell_of h, hv]

theorem run_loadCellsFrom {b off : Nat} {c : Array Value} {t : TypeId} {fr : Nat × Nat} (h : w.heap[b]? = some (.cells c t fr)) :
    ∀ (n i : Nat) (acc : Array Value), off + i + n ≤ c.size → (loadCellsFrom ⟨b, off, none⟩ i n acc).run P w = .ok (acc ++ c.extract (off + i) (off + i + n)) w := by
  intro n
  induction n with
  | zero => intro i acc _; simp [loadCellsFrom]; omega
  | succ n ih =>
    intro i acc hle
    have hi : off + i < c.size := by omega
    simp only [loadCellsFrom, Sem.run_bind, addr_add]
    rw [run_load_cell h (v := c[off + i]) (by simp [hi])]
    simp only [Result.andThen_ok]
    rw [ih (i + 1) _ (by omega)]
    congr 1
    apply Array.ext'
    simp only [Array.toList_append, Array.toList_push, Array.toList_extract, List.extract_eq_take_drop, List.append_assoc]
    congr 1
    have h1 : off + i + (n + 1) - (off + i) = n + 1 := by omega
    have h2 : off + (i + 1) + n - (off + (i + 1)) = n := by omega
    rw [h1, h2, show off + (i + 1) = off + i + 1 from by omega]
    have hi' : off + i < c.toList.length := by simpa using hi
    rw [List.drop_eq_getElem_cons hi']
    simp
theorem run_loadCells {b off n : Nat} {c : Array Value} {t : TypeId} {fr : Nat × Nat} (h : w.heap[b]? = some (.cells c t fr)) (hle : n = 0 ∨ off + n ≤ c.size) :
    (loadCells ⟨b, off, none⟩ n).run P w = .ok ((c.toList.drop off).take n).toArray w := by
  unfold loadCells
  by_cases hn : n = 0
  · subst hn; simp [loadCellsFrom]
  · rw [run_loadCellsFrom h n 0 #[] (by omega)]
    congr 1
    apply Array.ext'
    simp [List.extract_eq_take_drop]

/-- Cells and what they stand for. -/
def RC (σ : Sg) (l : List AV) (c : Array Value) : Prop := (∀ (i : Nat) x, l[i]? = some x → ∃ v, c[i]? = some v ∧ Rv σ x v) ∧ (∀ (i : Nat) v, c[i]? = some v → oneC v = true)

theorem RC.sub {σ : Sg} {l : List AV} {c : Array Value} (h : RC σ l c) {off n : Nat} {r : List AV} (hs : Ex.sub l off n = some r) (hl : l.length ≤ c.size) :
    RL σ r ((c.toList.drop off).take n) ∧ (∀ u, u ∈ (c.toList.drop off).take n → oneC u = true) ∧ (n = 0 ∨ off + n ≤ c.size) := by
  obtain ⟨h1, h2, h3⟩ := sub_spec hs
  refine ⟨⟨?_, ?_⟩, ?_, by omega⟩
  · rw [h1, List.length_take, List.length_drop, Array.length_toList]; omega
  · intro i x v hx hv
    have hi : i < n := by rw [← h1]; exact (List.getElem?_eq_some_iff.1 hx).1
    rw [sub_get hs i hi] at hx
    obtain ⟨u, hu, hr⟩ := h.1 _ _ hx
    rw [List.getElem?_take, if_pos hi, List.getElem?_drop, Array.getElem?_toList] at hv
    rw [hu] at hv; cases hv; exact hr
  · intro u hu
    obtain ⟨i, hi⟩ := List.mem_iff_getElem?.1 (List.mem_of_mem_drop (List.mem_of_mem_take hu))
    rw [Array.getElem?_toList] at hi
    exact h.2 i u hi

/-- A part of cells, read as a value. -/
theorem run_loadVar {σ : Sg} {t : TypeId} {b off : Nat} {c : Array Value} {tt : TypeId} {fr : Nat × Nat} {l : List AV} {x : AV} (hh : w.heap[b]? = some (.cells c tt fr)) (hc : RC σ l c) (hl : l.length ≤ c.size)
    (hp : partA P t l off = some x) : ∃ v, (loadVar t ⟨b, off, none⟩).run P w = .ok v w ∧ Rv σ x v := by
  unfold partA at hp
  split at hp
  · rename_i n ha hs
    split at hp
    · rename_i r hr
      simp only [Option.some.injEq] at hp; subst hp
      obtain ⟨h1, h2, h3⟩ := hc.sub hr hl
      refine ⟨.agg ((c.toList.drop off).take n).toArray, ?_, .agg _ _ h1.1 h2 h1.2⟩
      simp only [loadVar, Sem.run_bind, run_agg ha, Result.andThen_ok, if_true, Sem.run_ite, run_size hs, run_loadCells hh h3]
      rfl
    · cases hp
  · rename_i n ha hs
    split at hp
    · rename_i v rest hd
      simp only [Option.some.injEq] at hp; subst hp
      rw [dropL_eq] at hd
      have hx : l[off]? = some v := by
        have := congrArg (fun m => m[0]?) hd
        simpa [List.getElem?_drop] using this
      obtain ⟨u, hu, hr⟩ := hc.1 _ _ hx
      refine ⟨u, ?_, hr⟩
      simp only [loadVar, Sem.run_bind, run_agg ha, Result.andThen_ok, Bool.false_eq_true, if_false]
      exact run_load_cell hh hu _
    · cases hp
  · cases hp

/-- A part of an aggregate. -/
theorem run_part {σ : Sg} {t : TypeId} {off : Nat} {l : List AV} {vs : List Value} {x : AV} (hl : RL σ l vs) (h1 : ∀ u, u ∈ vs → oneC u = true) (hp : partA P t l off = some x) :
    ∃ v, (part t vs.toArray off).run P w = .ok v w ∧ Rv σ x v := by
  have hc : RC σ l vs.toArray := ⟨fun i x hx => let ⟨v, hv, hr⟩ := hl.get hx; ⟨v, by simpa using hv, hr⟩, fun i v hv => h1 v (List.mem_of_getElem? (by simpa using hv))⟩
  have hle : l.length ≤ vs.toArray.size := by simp [hl.1]
  unfold partA at hp
  split at hp
  · rename_i n ha hs
    split at hp
    · rename_i r hr
      simp only [Option.some.injEq] at hp; subst hp
      obtain ⟨g1, g2, g3⟩ := hc.sub hr hle
      refine ⟨.agg ((vs.drop off).take n).toArray, ?_, .agg _ _ (by simpa using g1.1) (by simpa using g2) (by simpa using g1.2)⟩
      simp only [part, Sem.run_bind, run_agg ha, Result.andThen_ok, if_true, Sem.run_ite, run_size hs, Sem.run_pure]
      congr 2
      apply Array.ext'
      simp [List.extract_eq_take_drop]
    · cases hp
  · rename_i n ha hs
    split at hp
    · rename_i v rest hd
      simp only [Option.some.injEq] at hp; subst hp
      rw [dropL_eq] at hd
      have hx : l[off]? = some v := by
        have := congrArg (fun m => m[0]?) hd
        simpa [List.getElem?_drop] using this
      obtain ⟨u, hu, hr⟩ := hc.1 _ _ hx
      refine ⟨u, ?_, hr⟩
      simp only [part, Sem.run_bind, run_agg ha, Result.andThen_ok, Bool.false_eq_true, if_false, Sem.run_ite, hu, Sem.run_pure]
    · cases hp
  · cases hp

/-! ### Stores -/
theorem setCell_heap {b : Nat} {c : Array Value} {t : TypeId} {fr : Nat × Nat} (h : w.heap[b]? = some (.cells c t fr)) (o : Nat) (v : Value) :
    (w.setCell ⟨b, o, none⟩ v).heap[b]? = some (.cells (c.setIfInBounds o v) t fr) ∧ (∀ j, j ≠ b → (w.setCell ⟨b, o, none⟩ v).heap[j]? = w.heap[j]?) := by
  refine ⟨?_, fun j hj => RowKit.Below.heap_setCell _ _ _ _ hj⟩
  simp [World.setCell, Array.getElem?_modify, h]
theorem run_store_cell {b : Nat} {c : Array Value} {t : TypeId} {fr : Nat × Nat} (h : w.heap[b]? = some (.cells c t fr)) {o : Nat} {v : Value} (ho : o < c.size) (hf : ¬ (fr.1 ≤ o ∧ o < fr.2)) (hv : oneC v = true) (m : Mode) :
    (store ⟨b, o, none⟩ v m).run P w = .ok () (w.setCell ⟨b, o, none⟩ v) := by
  rw [run_store _ _ _ _ _ (by cases v <;> first | rfl | (simp [oneC] at hv))]
  rw [cell_of h]
  simp only [Array.getElem?_eq_getElem ho]
  have : w.frozen? ⟨b, o, none⟩ = false := by
    obtain ⟨lo, hi⟩ := fr
    simp only [World.frozen?, h]
    simp at hf ⊢
    exact hf
  simp [this]

/-- Cells stored one behind the other. -/
theorem run_storeCells {b : Nat} {t : TypeId} {fr : Nat × Nat} : ∀ (vs : List Value) (w : World) (c : Array Value) (off i : Nat), w.heap[b]? = some (.cells c t fr) → (vs = [] ∨ off + i + vs.length ≤ c.size) →
    (∀ j, j < c.size → ¬ (fr.1 ≤ j ∧ j < fr.2)) → (∀ u, u ∈ vs → oneC u = true) →
    ∃ w' c', (storeCells ⟨b, off, none⟩ vs i).run P w = .ok () w' ∧ w'.heap[b]? = some (.cells c' t fr) ∧ c'.size = c.size ∧ (∀ j : Nat, c'[j]? = if off + i ≤ j ∧ j < off + i + vs.length then vs[j - (off + i)]? else c[j]?) ∧
      (∀ j, j ≠ b → w'.heap[j]? = w.heap[j]?) ∧ w'.heap.size = w.heap.size ∧ w'.os = w.os ∧ w'.tape = w.tape ∧ w'.output = w.output := by
  intro vs
  induction vs with
  | nil =>
    intro w c off i h _ _ _
    exact ⟨w, c, by simp [storeCells], h, rfl, fun j => by rw [if_neg (by intro e; simp only [List.length_nil] at e; omega)], fun _ _ => rfl, rfl, rfl, rfl, rfl⟩
  | cons v vs ih =>
    intro w c off i h hle hf h1
    have hle' : off + i + (vs.length + 1) ≤ c.size := by
      rcases hle with e | e
      · cases e
      · simpa using e
    have hs := run_store_cell (P := P) h (o := off + i) (v := v) (by omega) (hf _ (by omega)) (h1 v (by simp)) .plain
    obtain ⟨g1, g2⟩ := setCell_heap h (off + i) v
    obtain ⟨w', c', r1, r2, r3, r4, r5, r6, r7, r8, r9⟩ := ih (w.setCell ⟨b, off + i, none⟩ v) (c.setIfInBounds (off + i) v) off (i + 1) g1 (.inr (by simp; omega)) (by simpa using hf) (fun u hu => h1 u (by simp [hu]))
    refine ⟨w', c', ?_, r2, by simpa using r3, fun j => ?_, fun j hj => (r5 j hj).trans (g2 j hj), r6.trans (by simp [World.setCell]), r7, r8, r9⟩
    · simp only [storeCells, addr_add, Sem.run_bind, hs, Result.andThen_ok]; exact r1
    · rw [r4 j]
      by_cases e1 : off + (i + 1) ≤ j ∧ j < off + (i + 1) + vs.length
      · rw [if_pos e1, if_pos (by simp; omega)]
        rw [show j - (off + i) = (j - (off + (i + 1))) + 1 from by omega]; simp
      · rw [if_neg e1]
        by_cases e2 : j = off + i
        · subst e2; rw [if_pos ⟨Nat.le_refl _, by simp only [List.length_cons]; omega⟩]; have hlt : off + i < c.size := by omega
          simp [hlt]
        · rw [if_neg (by intro e; simp only [List.length_cons] at e; omega), Array.getElem?_setIfInBounds_ne (by omega)]
end
end Go.Ex
