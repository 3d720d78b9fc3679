/-
  An entry whose lists lie in rows of their own. No program.
-/
import Derived.Test.YtiiadibbkijnhaaGreatDoorEntAt
import Derived.Test.YtiiadibbkijnhaaGreatDoorFltLent
import Derived.Laws.OwnMore
namespace Go.EntLaw
open Go.RowKit Go.FltLaw

/-- An attribute, the block of its values, that block's room. -/
structure Rw where
  a : Atr
  g : Nat
  c : Nat
def Rw.cells (r : Rw) : List Value := [txt r.a.ds, .slice (some ⟨r.g, 0, none⟩) r.a.vs.length r.c]
def rowCells : List Rw → List Value
  | [] => []
  | r :: rs => r.cells ++ rowCells rs

theorem rowCells_len : ∀ rs : List Rw, (rowCells rs).length = rs.length * 2
  | [] => rfl
  | r :: rs => by simp [rowCells, Rw.cells, rowCells_len rs]; omega
theorem rowCells_snoc (r : Rw) : ∀ rs : List Rw, rowCells (rs ++ [r]) = rowCells rs ++ r.cells
  | [] => by simp [rowCells]
  | q :: rs => by simp [rowCells, rowCells_snoc r rs]
theorem rowCells_at {r : Rw} : ∀ {rs : List Rw} {i : Nat}, rs[i]? = some r → (rowCells rs)[i * 2]? = some (txt r.a.ds) ∧ (rowCells rs)[i * 2 + 1]? = some (.slice (some ⟨r.g, 0, none⟩) r.a.vs.length r.c)
  | [], i, h => by simp at h
  | q :: rs, 0, h => by
    simp only [List.getElem?_cons_zero, Option.some.injEq] at h
    subst h
    exact ⟨rfl, rfl⟩
  | q :: rs, i + 1, h => by
    simp only [List.getElem?_cons_succ] at h
    obtain ⟨h1, h2⟩ := rowCells_at h
    have e : (i + 1) * 2 = i * 2 + 2 := by omega
    rw [e]
    refine ⟨?_, ?_⟩
    · show (q.cells ++ rowCells rs)[i * 2 + 2]? = _
      rw [List.getElem?_append_right (by simp [Rw.cells])]
      simpa [Rw.cells] using h1
    · show (q.cells ++ rowCells rs)[i * 2 + 2 + 1]? = _
      rw [List.getElem?_append_right (by simp [Rw.cells])]
      simpa [Rw.cells] using h2
theorem rowCells_one : ∀ rs : List Rw, ∀ u ∈ rowCells rs, u.oneCell' = true
  | [], u, h => by cases h
  | r :: rs, u, h => by
    rcases List.mem_append.1 h with h | h
    · simp only [Rw.cells, List.mem_cons, List.not_mem_nil, or_false] at h
      rcases h with rfl | rfl <;> rfl
    · exact rowCells_one rs u h

/-- What an attribute's size is. -/
structure Small (a : Atr) : Prop where
  ds : a.ds.length ≤ 140737488351232
  vn : a.vs.length * 16 ≤ 140737488351232
  vs : ∀ m ∈ a.vs, m.length ≤ 140737488351232

/-- Each attribute's values, sp behind them, lie in a row of their own, one above the other. -/
structure Rws (w : World) (ts : TypeId) (lo : Nat) (sp : List Value) (rs : List Rw) : Prop where
  row : ∀ (i : Nat) (r : Rw), rs[i]? = some r → w.ownsRow lo ts 1 (.slice (some ⟨r.g, 0, none⟩) (r.a.vs.length + sp.length) r.c) (r.a.vs.length + sp.length) (r.a.vs.map txt ++ sp)
  small : ∀ r : Rw, r ∈ rs → Small r.a
  rise : ∀ (i j : Nat) (ri rj : Rw), rs[i]? = some ri → rs[j]? = some rj → i < j → ri.g < rj.g

section
variable {w w' : World} {ts ta : TypeId} {lo : Nat} {sp : List Value} {rs : List Rw}
theorem Rws.nil (w : World) (ts : TypeId) (lo : Nat) (sp : List Value) : Rws w ts lo sp [] := ⟨fun i r h => (by simp at h), fun r h => (by cases h), fun i j ri rj h => (by simp at h)⟩
theorem Rws.form (h : Rws w ts lo sp rs) {i : Nat} {r : Rw} (hi : rs[i]? = some r) : lo ≤ r.g ∧ r.g < w.heap.size ∧ r.a.vs.length + sp.length ≤ r.c ∧ r.c ≤ maxLen := row_form (h.row i r hi)
theorem Rws.keep (h : Rws w ts lo sp rs) (hk : ∀ r ∈ rs, w'.heap[r.g]? = w.heap[r.g]?) : Rws w' ts lo sp rs := by
  refine ⟨fun i r hi => ?_, h.small, h.rise⟩
  obtain ⟨h1, h2⟩ := h.row i r hi
  refine ⟨h1, ?_⟩
  rcases h2 with h2 | ⟨g, cap, cur, hv, hb, hg, r'⟩
  · exact .inl h2
  · simp only [Value.slice.injEq, Option.some.injEq, Addr.mk.injEq] at hv
    obtain ⟨⟨rfl, _⟩, _, rfl⟩ := hv
    exact .inr ⟨r.g, r.c, cur, rfl, hb, by rw [hk r (List.mem_of_getElem? hi)]; exact hg, r'⟩
theorem Rws.below (h : Rws w ts lo sp rs) (hb : Below w.heap.size w w') : Rws w' ts lo sp rs := h.keep fun r hr => by
  obtain ⟨i, hi⟩ := List.getElem?_of_mem hr
  exact hb.block _ (h.form hi).2.1
theorem Rws.typ (h : Rws w ts lo sp rs) {r : Rw} (hr : r ∈ rs) : ∃ cur, w.heap[r.g]? = some (.cells cur ts (0, 0)) := by
  obtain ⟨i, hi⟩ := List.getElem?_of_mem hr
  rcases (h.row i r hi).2 with h2 | ⟨g, cap, cur, hv, hb, hg, r'⟩
  · simp at h2
  · simp only [Value.slice.injEq, Option.some.injEq, Addr.mk.injEq] at hv
    obtain ⟨⟨rfl, _⟩, _, rfl⟩ := hv
    exact ⟨cur, hg⟩
/-- A row of another type lies elsewhere. -/
theorem Rws.ne (h : Rws w ts lo sp rs) {r : Rw} (hr : r ∈ rs) (hne : ts ≠ ta) {B size n : Nat} {v : Value} {xs : List Value} (ho : w.ownsRow B ta size v n xs) : v.ownBlock ≠ some r.g := by
  intro e
  obtain ⟨cur, hc⟩ := h.typ hr
  rcases ho.2 with ⟨hv, _⟩ | ⟨g, cap, cur', hv, hb, hg, _⟩
  · rw [hv] at e; cases e
  · rw [hv] at e
    simp only [Value.ownBlock, Option.some.injEq] at e
    subst e
    rw [hc] at hg
    simp only [Option.some.injEq, Obj.cells.injEq] at hg
    exact hne hg.2.1
/-- One attribute more. -/
theorem Rws.snoc (h : Rws w ts lo sp rs) (hk : ∀ r ∈ rs, w'.heap[r.g]? = w.heap[r.g]?) {r : Rw} (hr : w'.ownsRow lo ts 1 (.slice (some ⟨r.g, 0, none⟩) (r.a.vs.length + sp.length) r.c) (r.a.vs.length + sp.length) (r.a.vs.map txt ++ sp)) (hs : Small r.a) (hg : w.heap.size ≤ r.g) : Rws w' ts lo sp (rs ++ [r]) := by
  have h' := h.keep hk
  refine ⟨fun i q hi => ?_, fun q hq => ?_, fun i j ri rj hi hj hlt => ?_⟩
  · by_cases hl : i < rs.length
    · rw [List.getElem?_append_left hl] at hi
      exact h'.row i q hi
    · rw [List.getElem?_append_right (by omega)] at hi
      have : i - rs.length = 0 := by
        have := (List.getElem?_eq_some_iff.1 hi).1
        simp at this; omega
      rw [this] at hi
      simp only [List.getElem?_cons_zero, Option.some.injEq] at hi
      subst hi
      exact hr
  · rcases List.mem_append.1 hq with hq | hq
    · exact h.small q hq
    · simp only [List.mem_singleton] at hq
      subst hq
      exact hs
  · by_cases hl : j < rs.length
    · rw [List.getElem?_append_left hl] at hj
      rw [List.getElem?_append_left (by omega)] at hi
      exact h.rise i j ri rj hi hj hlt
    · rw [List.getElem?_append_right (by omega)] at hj
      have h0 : j - rs.length = 0 := by
        have := (List.getElem?_eq_some_iff.1 hj).1
        simp at this; omega
      rw [h0] at hj
      simp only [List.getElem?_cons_zero, Option.some.injEq] at hj
      subst hj
      rw [List.getElem?_append_left (by omega)] at hi
      have := (h.form hi).2.1
      omega
/-- Read as an entry. -/
theorem Rws.entry (h : Rws w ts lo sp rs) {B kc gk hi m : Nat} {ys : List Value} (hrow : w.ownsRow B ta 2 (.slice (some ⟨gk, 0, none⟩) m kc) m (rowCells rs ++ ys)) (hB : B ≤ lo) (hs : w.heap.size ≤ hi) (hn : rs.length * 40 ≤ 140737488351232) : EAt w B hi (rs.map (·.a)) (some ⟨gk, 0, none⟩) kc := by
  obtain ⟨r1, r2, r3, r4⟩ := row_form hrow
  have hl : rs.length * 2 + ys.length = m * 2 := by
    have := hrow.1
    simpa [rowCells_len] using this
  have ad : ∀ g j, (⟨g, 0, none⟩ : Addr).add j = ⟨g, j, none⟩ := fun g j => by unfold Addr.add; split <;> simp_all
  refine ⟨by simp; omega, r4, by simpa using hn, fun h0 => ⟨_, rfl, r1, (by show gk < hi; omega), fun i a hi' => ?_⟩⟩
  rw [List.getElem?_map] at hi'
  obtain ⟨r, hr, rfl⟩ := Option.map_eq_some_iff.1 hi'
  obtain ⟨f1, f2, f3, f4⟩ := h.form hr
  have hsm := h.small r (List.mem_of_getElem? hr)
  obtain ⟨c1, c2⟩ := rowCells_at hr
  have hlt : i < rs.length := (List.getElem?_eq_some_iff.1 hr).1
  refine ⟨hsm.ds, some ⟨r.g, 0, none⟩, r.c, ⟨by omega, f4, hsm.vn, hsm.vs, fun _ => ⟨_, rfl, (by show B ≤ r.g; omega), (by show r.g < hi; omega), fun j u hu => ?_⟩⟩, ?_, ?_⟩
  · rw [ad]
    refine row_cell (h.row i r hr) ?_
    rw [List.getElem?_append_left (by simpa using (List.getElem?_eq_some_iff.1 hu).1), List.getElem?_map, hu]; rfl
  · rw [ad]
    exact row_cell hrow (by rw [List.getElem?_append_left (by rw [rowCells_len]; omega)]; exact c1)
  · rw [ad]
    exact row_cell hrow (by rw [List.getElem?_append_left (by rw [rowCells_len]; omega)]; exact c2)
end
end Go.EntLaw
