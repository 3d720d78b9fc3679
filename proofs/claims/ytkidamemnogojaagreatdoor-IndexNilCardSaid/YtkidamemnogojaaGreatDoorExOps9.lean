/-
  The abstract machine: an operation that calls nothing.
-/
import Derived.Test.YtkidamemnogojaaGreatDoorExOps8
set_option linter.unusedVariables false
set_option linter.unusedSimpArgs false
namespace Go.Ex

section
variable {P : Program} {B G : Nat} {σ : Sg} {hp : Tr Blk} {nx : Nat} {w : World}

theorem aop_ok (hr : Rel B G σ hp w) (hB : B ≤ w.heap.size) {sz : Nat} {tm : Tr AV} {a : Act} (ht : RT σ sz tm a.tmps) {o : Oper} {r : R} (h : aop P G tm hp nx o = some r) (hf : Fresh σ nx r.nx) :
    OkN P B G σ hp nx w (execOp a.eval o) r := by
  have ev := ev_ok hr ht
  obtain ⟨dst, op, type, pos, after, guard⟩ := o
  cases op <;> simp only [aop, aopM] at h <;> simp only [execOp]
  case move x => exact okN_val hr h (ev _)
  case assign x => exact okN_val hr h (ev _)
  case load t x => exact okV_n (.rvO hr h fun y hy => load_ok hr hy (ev _))
  case store t x y => exact okU_n (store_ok hr h (ev _) (ev _))
  case binOp op t x y _ =>
    rcases cond_eq_some h with ⟨hg, h'⟩ | ⟨_, h'⟩ <;> clear h
    · refine okV_n (.rvO hr h' fun z hz => ?_)
      obtain ⟨k1, k2, k3⟩ := binA_known hz
      obtain ⟨v, hv, hzv⟩ := bin_ok (P := P) (w := w) hz (ev x) (ev y)
      refine ⟨v, ?_, hzv⟩
      simp only [Sem.run_bind, eqGuard_ok (P := P) (w := w) (t := t) hg (ev x) (ev y) k3 k1 k2, Result.andThen_ok]
      exact hv
    · cases h'
  case fieldAddr s x f => exact okV_n (fieldAddr_ok hr h (ev _))
  case indexAddr t x i => exact okV_n (indexAddr_ok hr h (ev _) (ev _))
  case nilCheck x =>
    unfold doNilCheck at h
    have hx := ev x
    split at h
    · rename_i hq; rw [hq] at hx
      obtain ⟨b, z, hs, e⟩ := hx.inv_ptr
      rw [e]
      exact okN_val hr h (.ptr _ _ _ _ hs)
    · rename_i hq; rw [hq] at hx
      obtain ⟨va, vb, h1, h2, e⟩ := hx.inv_fn
      rw [e]
      exact okN_val hr h (.fn _ _ _ _ _ h1.1 h2.1 h1.2 h2.2)
    · rename_i hq; rw [hq] at hx
      obtain ⟨u, hu, e⟩ := hx.inv_iface
      rw [e]
      exact okN_val hr h (.iface _ _ _ hu)
    · cases h
  case pick c x y =>
    unfold doPick at h
    have hc := ev c
    split at h
    · rename_i hq; rw [hq] at hc; rw [hc.inv_bool]; exact okN_val hr h (ev _)
    · rename_i hq; rw [hq] at hc; rw [hc.inv_bool]; exact okN_val hr h (ev _)
    · cases h
  case unOp op t x => exact okV_n (.rvO hr h fun y hy => un_ok hy (ev _))
  case alloc t => exact okV_n (alloc_ok hr hB hf h)
  case box t x => exact okV_n (box_ok hr hB hf h (ev _))
  case build t ps =>
    refine okV_n (build_ok hr h ?_)
    rw [Array.toList_map]; exact RPs_map ev _
  case buildSlice t n ps =>
    refine okV_n (buildSlice_ok hr hB hf h ?_)
    rw [Array.toList_map]; exact RPs_map ev _
  case convert s d x => exact okV_n (convert_ok hr hB hf h (ev _))
  case makeInterface t x => exact okV_n (makeIface_ok hr h (ev _))
  case makeFunc f x y =>
    unfold doMakeFunc at h
    split at h
    · rename_i g
      have h1 := evs_ok hr ht x
      have h2 := evs_ok hr ht y
      refine okV_n (s := Instr.makeFunc (.func g) (x.map a.eval) (y.map a.eval)) (.rv hr h ⟨.func (.func g) (x.map a.eval) (y.map a.eval), rfl, ?_⟩)
      have := Rv.fn (σ := σ) g _ _ (x.map a.eval).toList (y.map a.eval).toList h1.1 h2.1 h1.2 h2.2
      rwa [Array.toArray_toList, Array.toArray_toList] at this
    · cases h
  case makeMap t x => exact okV_n (makeMap_ok hr hB hf h (RO_map ev _))
  case makeSlice t l c => exact okV_n (makeSlice_ok hr hB hf h (ev _) (ev _))
  case slice t x lo hi mx => exact okV_n (slice_ok hr h (ev _) (RO_map ev _) (RO_map ev _) (RO_map ev _))
  case field s x f => exact okV_n (field_ok hr h (ev _))
  case index t x i => exact okV_n (index_ok hr h (ev _) (ev _))
  case lookup t x i ok =>
    rcases orE_some h with h | h
    · exact okV_n (lookup_ok hr h (ev _) (ev _))
    · exact okV_n (lookupU_ok hr h (ev _) (ev _))
  case mapUpdate t m k v =>
    rcases orE_some h with h | h
    · exact okU_n (mapSet_ok hr h (ev _) (ev _) (ev _))
    · exact okU_n (mapSetU_ok hr h (ev _) (ev _) (ev _))
  case insert t m k v =>
    rcases orE_some h with h | h
    · exact okU_n (mapSet_ok hr h (ev _) (ev _) (ev _))
    · exact okU_n (mapSetU_ok hr h (ev _) (ev _) (ev _))
  case mapEntry t m k => exact okV_n (mapEntry_ok hr h (ev _) (ev _))
  case entryStore t m s v => exact okU_n (entryStore_ok hr h (ev _) (ev _) (ev _))
  case range t x => exact okV_n (range_ok hr hB hf h (ev _))
  case next it isS => exact okV_n (next_ok hr h (ev _))
  case entry it => exact okV_n (entry_ok hr h (ev _))
  case typeAssert x t as ok => exact okV_n (assert_ok hr h (ev _))
  case extract x i =>
    unfold doExtract at h
    have hx := ev x
    split at h
    · rename_i l hq
      rw [hq] at hx
      obtain ⟨vs, hl, e⟩ := hx.inv_tup
      refine okV_n (.rvO hr h fun y hy => ?_)
      obtain ⟨v, hv, hyv⟩ := hl.get hy
      rw [e]
      exact ⟨v, by simp [Instr.extract, hv], hyv⟩
    · cases h
  case call c =>
    split at h
    · rename_i b hb
      simp only [resolve, hb, pure_bind, invoke]
      exact builtin_ok hr hB hf h (evs_ok hr ht c.args)
    · cases h
  all_goals cases h

/-- The next entry of a map. -/
theorem pickO_ok (hr : Rel B G σ hp w) {sz : Nat} {tm : Tr AV} {a : Act} (ht : RT σ sz tm a.tmps) {o : Oper} {it : Operand} {isS : Bool} (hop : o.op = .next it isS) {l : List R} (h : picks hp nx (ev G tm it) isS = some l) :
    l = [] ∨ ∃ r ∈ l, r.nx = nx ∧ OkN P B G σ hp nx w (execOp a.eval o) r := by
  have ev := ev_ok hr ht
  obtain ⟨dst, op, type, pos, after, guard⟩ := o
  simp only at hop
  subst hop
  rcases picks_ok (P := P) (t := type) hr h (ev _) with ⟨h0, _⟩ | ⟨r, h1, h2, h3⟩
  · exact .inl h0
  · exact .inr ⟨r, h1, h2, by simp only [execOp]; exact okV_n h3⟩
end
end Go.Ex
