/-
  The abstract machine: slices.Insert of one text ahead of another one.
-/
import Derived.Test.YtiiadibbkijnhaaGreatDoorExTiny
import Derived.Shelf.Spec.SlicesInsert
import Derived.Shelf.Spec.SlicesInsertGrow
set_option linter.unusedVariables false
set_option linter.unusedSimpArgs false
namespace Go.Ex
open Go.Proofs

theorem one_cell {v : Value} (h : oneC v = true) : v.oneCell' = true := by cases v <;> first | rfl | cases h

theorem setCells_heap {b : Nat} {t : TypeId} {fr : Nat × Nat} : ∀ (vs : List Value) (w : World) (c : Array Value) (off : Nat), w.heap[b]? = some (.cells c t fr) → off + vs.length ≤ c.size →
    ∃ c', (w.setCells b off vs).heap[b]? = some (.cells c' t fr) ∧ c'.size = c.size ∧ (∀ j : Nat, c'[j]? = if off ≤ j ∧ j < off + vs.length then vs[j - off]? else c[j]?) ∧
      (∀ j, j ≠ b → (w.setCells b off vs).heap[j]? = w.heap[j]?) ∧ (w.setCells b off vs).heap.size = w.heap.size ∧ (w.setCells b off vs).os = w.os ∧ (w.setCells b off vs).tape = w.tape ∧ (w.setCells b off vs).output = w.output := by
  intro vs
  induction vs with
  | nil =>
    intro w c off h _
    exact ⟨c, h, rfl, fun j => by rw [if_neg (by intro e; simp only [List.length_nil] at e; omega)], fun _ _ => rfl, rfl, rfl, rfl, rfl⟩
  | cons v vs ih =>
    intro w c off h hle
    simp only [List.length_cons] at hle
    obtain ⟨g1, g2⟩ := setCell_heap h off v
    obtain ⟨c', r2, r3, r4, r5, r6, r7, r8, r9⟩ := ih (w.setCell ⟨b, off, none⟩ v) (c.setIfInBounds off v) (off + 1) g1 (by simp; omega)
    refine ⟨c', r2, by simpa using r3, fun j => ?_, fun j hj => (r5 j hj).trans (g2 j hj), r6.trans (by simp [World.setCell]), r7, r8, r9⟩
    rw [r4 j]
    by_cases e1 : off + 1 ≤ j ∧ j < off + 1 + vs.length
    · rw [if_pos e1, if_pos (by simp; omega)]
      rw [show j - off = (j - (off + 1)) + 1 from by omega]; simp
    · rw [if_neg e1]
      by_cases e2 : j = off
      · subst e2; rw [if_pos ⟨Nat.le_refl _, by simp only [List.length_cons]; omega⟩]
        have hlt : j < c.size := by omega
        simp [hlt]
      · rw [if_neg (by intro e; simp only [List.length_cons] at e; omega), Array.getElem?_setIfInBounds_ne (by omega)]

theorem frozen_of {w : World} {b : Nat} {c : Array Value} {t : TypeId} {fr : Nat × Nat} (h : w.heap[b]? = some (.cells c t fr)) (o : Nat) (hf : ¬ (fr.1 ≤ o ∧ o < fr.2)) : w.frozen? ⟨b, o, none⟩ = false := by
  obtain ⟨lo, hi⟩ := fr
  simp only [World.frozen?, h]
  simp at hf ⊢
  exact hf

/-- An element stands between the others. -/
theorem ins_cells {σ : Sg} {l : List AV} {x : AV} {i len : Nat} {cs : List Value} {xv : Value} (hl : l.length = len) (hi : i < len) {c2 : Array Value}
    (hc : ∀ j, j ≤ len → c2[j]? = if j < i then cs[j]? else if j = i then some xv else cs[j - 1]?) (h : ∀ (j : Nat) y, l[j]? = some y → ∃ v, cs[j]? = some v ∧ Rv σ y v) (hx : Rv σ x xv) :
    ∀ (j : Nat) y, (l.take i ++ x :: l.drop i)[j]? = some y → ∃ v, c2[j]? = some v ∧ Rv σ y v := by
  intro j y hy
  have hlt : (l.take i).length = i := by simp; omega
  by_cases h1 : j < i
  · rw [List.getElem?_append_left (by omega), List.getElem?_take, if_pos h1] at hy
    obtain ⟨v, hv, r⟩ := h j y hy
    exact ⟨v, by rw [hc j (by omega), if_pos h1]; exact hv, r⟩
  · rw [List.getElem?_append_right (by omega), hlt] at hy
    by_cases h2 : j = i
    · subst h2
      rw [Nat.sub_self] at hy
      simp only [List.getElem?_cons_zero, Option.some.injEq] at hy
      subst hy
      exact ⟨xv, by rw [hc _ (by omega), if_neg h1, if_pos rfl], hx⟩
    · obtain ⟨k, rfl⟩ : ∃ k, j = i + 1 + k := ⟨j - (i + 1), by omega⟩
      rw [show i + 1 + k - i = k + 1 by omega, List.getElem?_cons_succ, List.getElem?_drop] at hy
      obtain ⟨v, hv, r⟩ := h _ y hy
      have hle : i + k < l.length := (List.getElem?_eq_some_iff.1 hy).1
      exact ⟨v, by rw [hc _ (by omega), if_neg h1, if_neg h2, show i + 1 + k - 1 = i + k by omega]; exact hv, r⟩

theorem known_insert {P : Program} {ρ : Shelf.Ren} (L : Lays2.n22 P ρ) {fn : Func} {c : Code} (h1 : P.funcs[ρ.f 22]? = some fn) (h2 : fn.body = some c) : KnownOk P (ρ.f 22) .insert := by
  intro B G σ hp nx w args vs r hr hB ha hx hf cs
  unfold extA at hx
  split at hx
  any_goals (rename_i heq; cases heq; done)
  · rename_i id off len es i idv offv lenv cv0 esv hk0
    clear hk0
    unfold insA at hx
    split at hx
    · rename_i o tt l w0 tv lv hg hgv
      rcases cond_eq_some hx with ⟨hb, h⟩ | ⟨_, h⟩
      · simp only [Bool.and_eq_true] at hb
        obtain ⟨⟨⟨⟨⟨⟨⟨hb1, hb2⟩, hb3⟩, hb4⟩, hb5⟩, hb6⟩, hb7⟩, hb8⟩ := hb
        have e1 := beq_iff.1 hb1
        have e2 := beq_iff.1 hb2
        have e3 := beq_iff.1 hb3
        have e4 := beq_iff.1 hb4
        have hlen := beq_iff.1 hb5
        have hi := blt_iff.1 hb6
        have hbig := blt_iff.1 hb8
        have hid : id ≠ idv := fun e => by rw [beq_t e] at hb7; cases hb7
        subst e1 e2 e3 e4
        split at h
        · rename_i x lv' hdrop
          split at h
          · rename_i ck hck
            simp only [Option.some.injEq] at h; subst h
            have hσn : σ nx = none := hf nx (Nat.le_refl _) (Nat.lt_succ_self _)
            obtain ⟨v1, us, hvs, r1, ha1⟩ := ha.uncons
            obtain ⟨v2, us2, rfl, r2, ha2⟩ := ha1.uncons
            obtain ⟨v3, us3, rfl, r3, ha3⟩ := ha2.uncons
            have ha4 := ha3.of_nil
            subst ha4
            have hvs2 : vs = #[v1, v2, v3] := by rw [← Array.toArray_toList (xs := vs), hvs]
            subst hvs2
            obtain ⟨b, z, cp, hσ, hcz, hcm, rfl⟩ := r1.inv_slo
            have hcz2 : cp = z := by omega
            subst hcz2
            obtain ⟨vb, vz, vc, hσv, rfl⟩ := r3.inv_sl
            rw [r2.inv_int]
            obtain ⟨b', z', cc, t, fr, hs', hk, hcc, ho, hll, hfz, hrc, hBk⟩ := hr.cells hg
            rw [hσ] at hs'; simp only [Option.some.injEq, Prod.mk.injEq] at hs'; obtain ⟨rfl, rfl⟩ := hs'
            obtain ⟨vb', vz', cv, tv', frv, hsv, hkv, hcv, hov, hlv, hfzv, hrcv, _⟩ := hr.cells hgv
            rw [hσv] at hsv; simp only [Option.some.injEq, Prod.mk.injEq] at hsv; obtain ⟨rfl, rfl⟩ := hsv
            have hvb : vb ≠ b := fun e => hid (hr.inj id idv _ _ b _ _ hg hgv hσ (e ▸ hσv))
            have hx0 : lv[offv]? = some x := by
              have := congrArg (fun m : List AV => m[0]?) hdrop
              simpa [dropL_eq, List.getElem?_drop] using this
            obtain ⟨xv, hxv, rx⟩ := hrcv.1 offv x hx0
            have hone := hrcv.2 offv xv hxv
            have hlc : (cc.toList.take len).length = len := by simp; omega
            have hcs0 : ∀ (j : Nat) v, (cc.toList.take len)[j]? = some v → cc[j]? = some v := fun j v hj => by
              rw [List.getElem?_take] at hj
              split at hj
              · simpa using hj
              · cases hj
            have hcs : ∀ (j : Nat) v, (cc.toList.take len)[j]? = some v → w.cell? ⟨b, 0 + j, none⟩ = some v := fun j v hj => by
              rw [cell_of hk, Nat.zero_add]; exact hcs0 j v hj
            have hvs : ∀ (j : Nat) v, [xv][j]? = some v → w.cell? ⟨vb, offv + j, none⟩ = some v := fun j v hj => by
              cases j with
              | zero => simp only [List.getElem?_cons_zero, Option.some.injEq] at hj; subst hj; rw [cell_of hkv]; exact hxv
              | succ j => simp at hj
            have h1c : ∀ v, v ∈ cc.toList.take len → v.oneCell' = true := fun v hv => one_cell (by
              obtain ⟨j, hj⟩ := List.getElem?_of_mem hv
              exact hrc.2 j v (hcs0 j v hj))
            have h1v : ∀ v, v ∈ [xv] → v.oneCell' = true := fun v hv => by
              simp only [List.mem_singleton] at hv; subst hv; exact one_cell hone
            have hold : ∀ (j : Nat) y, l[j]? = some y → ∃ v, (cc.toList.take len)[j]? = some v ∧ Rv σ y v := fun j y hy => by
              obtain ⟨v, hv, r⟩ := hrc.1 j y hy
              have hj : j < l.length := (List.getElem?_eq_some_iff.1 hy).1
              exact ⟨v, by rw [List.getElem?_take, if_pos (by omega)]; simpa using hv, r⟩
            have hlen2 : (l.take i ++ x :: l.drop i).length = len + 1 := by simp; omega
            have hget : ∀ (j : Nat), j < len → (cc.toList.take len)[j]? = cc[j]? := fun j hj => by
              rw [List.getElem?_take, if_pos hj]; simp
            by_cases hroom : len + 1 ≤ cp
            · obtain ⟨e', w', frm, ⟨rfl, rfl⟩, hst, hfn, hlv'⟩ := Any2.slices_Insert_string_shift L b 0 len cp i vb offv 1 vc (cc.toList.take len) [xv] w hi (by omega) hroom hcm hvb hlc rfl hcs
                (fun j hj => by rw [cell_of hk, Nat.zero_add]; simp; omega) (fun j hj => frozen_of hk _ (hfz _ (.inl (by omega)))) hvs h1c h1v tv' t cv.size cc.size (shape_of hkv) (shape_of hk) (by omega)
                (frozen_of hkv _ (hfzv _ (.inr rfl))) (frozen_of hkv _ (hfzv _ (.inr rfl))) cs
              obtain ⟨c1, s2, s3, s4, s5, s6, s7, s8, s9⟩ := setCells_heap ((cc.toList.take len).drop i) w.drew cc (0 + (i + 1)) hk (by rw [List.length_drop, hlc]; omega)
              obtain ⟨c2, t2, t3, t4, t5, t6, t7, t8, t9⟩ := setCells_heap [xv] (w.drew.setCells b (0 + (i + 1)) ((cc.toList.take len).drop i)) c1 (0 + i) s2 (by simp only [List.length_singleton]; omega)
              have hcell : ∀ j, j ≤ len → c2[j]? = if j < i then (cc.toList.take len)[j]? else if j = i then some xv else (cc.toList.take len)[j - 1]? := fun j hj => by
                rw [t4 j, s4 j, List.length_drop, hlc, List.length_singleton]
                by_cases q1 : j < i
                · rw [if_neg (by omega), if_neg (by omega), if_pos q1, hget j (by omega)]
                · by_cases q2 : j = i
                  · subst q2
                    rw [if_pos (by omega), if_neg q1, if_pos rfl, show j - (0 + j) = 0 by omega]; rfl
                  · rw [if_neg (by omega), if_pos (by omega), if_neg q1, if_neg q2, List.getElem?_drop, show i + (j - (0 + (i + 1))) = j - 1 by omega]
              have hsub : Sub σ (σ.put nx (b, cp)) := Sub.put _ hσn
              have hone2 : ∀ (j : Nat) v, c2[j]? = some v → oneC v = true := fun j v hv => by
                rw [t4 j] at hv
                split at hv
                · have := List.mem_of_getElem? hv
                  simp only [List.mem_singleton] at this; subst this; exact hone
                · rw [s4 j] at hv
                  split at hv
                  · obtain ⟨q, hq⟩ := List.getElem?_of_mem (List.mem_of_mem_drop (List.mem_of_getElem? hv))
                    exact hrc.2 q v (hcs0 q v hq)
                  · exact hrc.2 j v hv
              obtain ⟨g1, g2⟩ := hr.rename (b' := .cells true true none (l.take i ++ x :: l.drop i)) hg rfl hσ hσn t2
                (.cells true true none _ c2 t fr (fun a h => by cases h) (by omega) (fun h => by cases h) (by rw [hlen2]; omega) (fun j hj => hfz j (.inl (by rcases hj with hj | hj; omega; cases hj))) hone2
                  (fun j y hy => let ⟨v, hv, r⟩ := ins_cells hlen hi hcell hold rx j y hy; ⟨v, hv, r.mono hsub⟩))
                (t6.trans s6) (fun j hj => (t5 j hj).trans (s5 j hj)) (t7.trans s7) (t8.trans s8) (t9.trans s9)
              exact ⟨_, _, _, .inr ⟨fn, c, h1, h2, frm, hst, hlv'⟩, .slo nx 0 (len + 1) _ 1 b _ (Sg.put_same _ _ _) (by omega) hcm, g1, g2⟩
            · obtain ⟨e', w', frm, ⟨rfl, rfl⟩, hst, hfn, hlv'⟩ := Any2.slices_Insert_string_grow L b 0 len cp i vb offv 1 vc (cc.toList.take len) [xv] w hi (by omega) (by omega) (by omega) (by omega) hlc rfl hcs hvs h1c h1v cs
              have hge := grownCap_ge w (len + 1) cp (ρ.t 9)
              have hle := grownCap_le_maxLen w (len + 1) cp (ρ.t 9) (by unfold maxLen; omega)
              obtain ⟨gc, hgc⟩ : ∃ gc, gc = grownCap w (len + 1) cp (ρ.t 9) := ⟨_, rfl⟩
              rw [← hgc] at hge hle hst hlv'
              have hgcm : CapOk gc := by unfold maxLen at hle; exact hle
              obtain ⟨z1, z2⟩ := ofVal_cells (σ := σ) (v := Value.string ⟨#[]⟩) (a := .str []) rfl
              have hzo : ∀ (n : Nat) v, v ∈ (Builtin.zeroCells (Value.string ⟨#[]⟩).cells n).toList → oneC v = true := fun n v hv => (zeros_ok z1 z2 (by decide) n (n * 1) rfl).2 v hv
              have hzs : ∀ n, (Builtin.zeroCells (Value.string ⟨#[]⟩).cells n).size = n := fun n => by
                have : (Value.string ⟨#[]⟩).cells.size = 1 := rfl
                simp only [Builtin.zeroCells, Array.size_map, Array.size_range, this, Nat.mul_one]
              obtain ⟨A, hA⟩ : ∃ A, A = ((cc.toList.take len).take i).toArray ++ Builtin.zeroCells (Value.string ⟨#[]⟩).cells (len + 1 - i) ++ Builtin.zeroCells (Value.string ⟨#[]⟩).cells (gc - (len + 1)) := ⟨_, rfl⟩
              rw [← hA] at hst hlv'
              have hti : ((cc.toList.take len).take i).toArray.size = i := by simp; omega
              have hAs : A.size = gc := by
                rw [hA]; simp only [Array.size_append, hzs, hti]; omega
              have hAo : ∀ (j : Nat) v, A[j]? = some v → oneC v = true := fun j v hv => by
                have hm := Array.mem_of_getElem? hv
                rw [hA] at hm
                simp only [Array.mem_append] at hm
                rcases hm with (hm | hm) | hm
                · obtain ⟨q, hq⟩ := List.getElem?_of_mem (List.mem_of_mem_take (by simpa using hm : v ∈ (cc.toList.take len).take i))
                  exact hrc.2 q v (hcs0 q v hq)
                · exact hzo _ v (by simpa using hm)
                · exact hzo _ v (by simpa using hm)
              have hAl : ∀ (j : Nat), j < i → A[j]? = (cc.toList.take len)[j]? := fun j hj => by
                rw [hA, Array.append_assoc, Array.getElem?_append_left (by omega)]
                rw [← Array.getElem?_toList]
                show ((cc.toList.take len).take i)[j]? = _
                rw [List.getElem?_take, if_pos hj]
              have hw0 : (w.alloc (.cells A (ρ.t 9))).drew.heap[w.heap.size]? = some (.cells A (ρ.t 9) (0, 0)) := heap_alloc_new w _
              obtain ⟨c1, s2, s3, s4, s5, s6, s7, s8, s9⟩ := setCells_heap [xv] (w.alloc (.cells A (ρ.t 9))).drew A i hw0 (by simp only [List.length_singleton]; omega)
              obtain ⟨c2, t2, t3, t4, t5, t6, t7, t8, t9⟩ := setCells_heap ((cc.toList.take len).drop i) ((w.alloc (.cells A (ρ.t 9))).drew.setCells w.heap.size i [xv]).drew c1 (i + 1) s2 (by rw [List.length_drop, hlc]; omega)
              have hcell : ∀ j, j ≤ len → c2[j]? = if j < i then (cc.toList.take len)[j]? else if j = i then some xv else (cc.toList.take len)[j - 1]? := fun j hj => by
                rw [t4 j, s4 j, List.length_drop, hlc, List.length_singleton]
                by_cases q1 : j < i
                · rw [if_neg (by omega), if_neg (by omega), if_pos q1, hAl j q1]
                · by_cases q2 : j = i
                  · subst q2
                    rw [if_neg (by omega), if_pos (by omega), if_neg q1, if_pos rfl, Nat.sub_self]; rfl
                  · rw [if_pos (by omega), if_neg q1, if_neg q2, List.getElem?_drop, show i + (j - (i + 1)) = j - 1 by omega]
              have hone2 : ∀ (j : Nat) v, c2[j]? = some v → oneC v = true := fun j v hv => by
                rw [t4 j] at hv
                split at hv
                · obtain ⟨q, hq⟩ := List.getElem?_of_mem (List.mem_of_mem_drop (List.mem_of_getElem? hv))
                  exact hrc.2 q v (hcs0 q v hq)
                · rw [s4 j] at hv
                  split at hv
                  · have := List.mem_of_getElem? hv
                    simp only [List.mem_singleton] at this; subst this; exact hone
                  · exact hAo j v hv
              obtain ⟨d1, d2⟩ := hr.drop id nx
              have hsub : Sub σ (σ.put nx (w.heap.size, gc)) := Sub.put _ hσn
              have hheap : ((((w.alloc (.cells A (ρ.t 9))).drew.setCells w.heap.size i [xv]).drew).setCells w.heap.size (i + 1) ((cc.toList.take len).drop i)).heap = w.heap.push (.cells c2 (ρ.t 9) (0, 0)) := by
                refine Array.ext_getElem? fun j => ?_
                by_cases e : j = w.heap.size
                · subst e; rw [t2]; simp
                · rw [t5 j e]
                  refine (s5 j e).trans ?_
                  show (w.heap.push _)[j]? = _
                  rw [Array.getElem?_push, Array.getElem?_push, if_neg e, if_neg e]
              obtain ⟨g1, g2⟩ := d1.new (z := gc) (nx := nx) (b := .cells true true none (l.take i ++ x :: l.drop i)) (o := .cells c2 (ρ.t 9) (0, 0)) hB hσn
                (.cells true true none _ c2 (ρ.t 9) (0, 0) (fun a h => by cases h) (by omega) (fun h => by cases h) (by rw [hlen2]; omega) (fun _ _ h => Nat.not_lt_zero _ h.2) hone2
                  (fun j y hy => let ⟨v, hv, r⟩ := ins_cells hlen hi hcell hold rx j y hy; ⟨v, hv, r.mono hsub⟩))
                hheap (t7.trans s7) (t8.trans s8) (t9.trans s9)
              exact ⟨_, _, _, .inr ⟨fn, c, h1, h2, frm, hst, hlv'⟩, .slo nx 0 (len + 1) gc 1 _ _ (Sg.put_same _ _ _) (by omega) hgcm, g1, d2.trans g2⟩
          · cases h
        · cases h
      · cases h
    · cases hx
  · cases hx
end Go.Ex
