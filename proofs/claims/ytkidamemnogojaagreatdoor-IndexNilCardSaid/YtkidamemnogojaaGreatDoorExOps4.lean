/-
  The abstract machine: building, new blocks, stores.
-/
import Derived.Test.YtkidamemnogojaaGreatDoorExOps3
set_option linter.unusedVariables false
set_option linter.unusedSimpArgs false
namespace Go.Ex

section
variable {P : Program} {B G : Nat} {σ : Sg} {hp : Tr Blk} {nx : Nat} {w : World}

theorem ofCell_ok {v : Value} {a : AV} (h : ofCell v = some a) : Rv σ a v ∧ oneC v = true := by
  unfold ofCell at h
  split at h <;> first
    | (simp only [Option.some.injEq] at h; subst h; exact ⟨by constructor, rfl⟩)
    | cases h
theorem ofCells_ok : ∀ {vs : List Value} {l : List AV}, ofCells vs = some l → RL σ l vs ∧ ∀ u, u ∈ vs → oneC u = true := by
  intro vs
  induction vs with
  | nil => intro l h; simp [ofCells] at h; subst h; exact ⟨.nil, by simp⟩
  | cons v vs ih =>
    intro l h
    simp only [ofCells] at h
    split at h
    · rename_i a r ha hr
      simp only [Option.some.injEq] at h; subst h
      obtain ⟨h1, h2⟩ := ih hr
      refine ⟨.cons (ofCell_ok ha).1 h1, fun u hu => ?_⟩
      rcases List.mem_cons.1 hu with rfl | hu
      · exact (ofCell_ok (σ := σ) ha).2
      · exact h2 u hu
    · cases h
theorem ofVal_ok {v : Value} {a : AV} (h : ofVal v = some a) : Rv σ a v := by
  unfold ofVal at h
  split at h
  · rename_i cs
    split at h
    · rename_i l hl
      simp only [Option.some.injEq] at h; subst h
      obtain ⟨h1, h2⟩ := ofCells_ok (σ := σ) hl
      exact .agg l cs.toList h1.1 h2 h1.2
    · cases h
  · exact (ofCell_ok h).1
theorem ofVal_cells {v : Value} {a : AV} (h : ofVal v = some a) : RL σ a.cells v.cells.toList ∧ (∀ u, u ∈ v.cells.toList → oneC u = true) := by
  unfold ofVal at h
  split at h
  · rename_i cs
    split at h
    · rename_i l hl
      simp only [Option.some.injEq] at h; subst h
      exact ofCells_ok hl
    · cases h
  · obtain ⟨h1, h2⟩ := ofCell_ok (σ := σ) h
    rename_i hn
    have hc : v.cells = #[v] := by cases v <;> first | rfl | exact absurd rfl (hn _)
    have ha : a.cells = [a] := by
      cases h1 <;> first | rfl | (simp [oneC] at h2)
    rw [hc, ha]
    exact ⟨.cons h1 .nil, by simpa using h2⟩

theorem zeroA_spec {t : TypeId} {z : AV} (h : zeroA P t = some z) : ∃ i zv, P.info? t = some i ∧ i.zero = some zv ∧ ofVal zv = some z := by
  unfold zeroA at h
  split at h
  · rename_i i hi
    split at h
    · rename_i zv hz; exact ⟨i, zv, hi, hz, h⟩
    · cases h
  · cases h
theorem run_zero {t : TypeId} {i : TypeInfo} {zv : Value} (hi : P.info? t = some i) (hz : i.zero = some zv) : (zeroValue t).run P w = .ok zv w := by
  simp [zeroValue, run_info hi, hz]

theorem RC.of_RL {l : List AV} {c : Array Value} (h : RL σ l c.toList) (h1 : ∀ u, u ∈ c.toList → oneC u = true) : RC σ l c :=
  ⟨fun i x hx => let ⟨v, hv, hr⟩ := h.get hx; ⟨v, by simpa using hv, hr⟩, fun i v hv => h1 v (List.mem_of_getElem? (by simpa using hv))⟩
theorem RC.mono {τ : Sg} (hs : Sub σ τ) {l : List AV} {c : Array Value} (h : RC σ l c) : RC τ l c := ⟨fun i x hx => let ⟨v, hv, hr⟩ := h.1 i x hx; ⟨v, hv, hr.mono hs⟩, h.2⟩

/-- A new block of cells, and a value that names it. -/
theorem OkV.newCells (hr : Rel B G σ hp w) (hB : B ≤ w.heap.size) (hf : σ nx = none) {s : Sem Value} {v : AV} {cv : Value} {w' : World} {o : Bool} {tt : Option TypeId} {l : List AV} {c : Array Value} {t : TypeId} {fr : Nat × Nat}
    (htt : ∀ a, tt = some a → t = a) (hrun : s.run P w = .ok cv w') (hh : w'.heap = w.heap.push (.cells c t fr)) (hos : w'.os = w.os) (htape : w'.tape = w.tape) (hout : w'.output = w.output)
    (hc : RC σ l c) (ho : o = false → l.length = c.size) (hl : l.length ≤ c.size) (hfr : ∀ i : Nat, (i < c.size ∨ o = false) → ¬ (fr.1 ≤ i ∧ i < fr.2))
    (hv : Rv (σ.put nx (w.heap.size, c.size)) v cv) : OkV P B G σ hp nx w s ⟨v, [(nx, some (.cells true o tt l))], nx + 1⟩ := by
  have hsub : Sub σ (σ.put nx (w.heap.size, c.size)) := Sub.put _ hf
  have hc' := hc.mono hsub
  obtain ⟨h1, h2⟩ := hr.new (z := c.size) (b := .cells true o tt l) (o := .cells c t fr) hB hf (.cells true o tt l c t fr htt rfl ho hl hfr hc'.2 hc'.1) hh hos htape hout
  exact ⟨_, w', cv, hrun, hv, h1, h2⟩

theorem alloc_ok (hr : Rel B G σ hp w) (hB : B ≤ w.heap.size) {t : TypeId} {r : R} (hf : Fresh σ nx r.nx) (h : doAlloc P nx t = some r) : OkV P B G σ hp nx w (Instr.alloc t true (.tuple #[])) r := by
  unfold doAlloc at h
  split at h
  · rename_i z hz
    simp only [rnew, Option.some.injEq] at h; subst h
    obtain ⟨i, zv, hi, hz1, hz2⟩ := zeroA_spec hz
    obtain ⟨g1, g2⟩ := ofVal_cells (σ := σ) hz2
    have hn := hf nx (Nat.le_refl _) (Nat.lt_succ_self _)
    refine OkV.newCells hr hB hn (c := zv.cells) (t := t) (fr := (0, 0)) (w' := { w with heap := w.heap.push (.cells zv.cells t) }) (cv := .pointer (some ⟨w.heap.size, 0, none⟩)) (by intro a h; cases h <;> rfl) ?_ rfl rfl rfl rfl (.of_RL g1 g2) (fun _ => by simpa using g1.1) (by have := g1.1; simp at this; omega) (fun _ _ h => Nat.not_lt_zero _ h.2) (.ptr _ _ _ zv.cells.size (Sg.put_same _ _ _))
    simp [Instr.alloc, run_zero hi hz1, newVar, newRow]
  · cases h

theorem box_ok (hr : Rel B G σ hp w) (hB : B ≤ w.heap.size) {t : TypeId} {x : AV} {vx : Value} {r : R} (hf : Fresh σ nx r.nx) (h : doBox nx x = some r) (hx : Rv σ x vx) : OkV P B G σ hp nx w (Instr.box t vx) r := by
  unfold doBox at h
  split at h
  · rename_i cs hcs
    simp only [rnew, Option.some.injEq] at h; subst h
    obtain ⟨us, h1, h2, h3⟩ := hx.cells hcs
    have hn := hf nx (Nat.le_refl _) (Nat.lt_succ_self _)
    refine OkV.newCells hr hB hn (c := us.toArray) (t := t) (fr := (0, 0)) (w' := { w with heap := w.heap.push (.cells us.toArray t) }) (cv := .pointer (some ⟨w.heap.size, 0, none⟩)) (by intro a h; cases h <;> rfl) ?_ rfl rfl rfl rfl (.of_RL (by simpa using h1) (by simpa using h2)) (fun _ => by simpa using h1.1) (by have := h1.1; simp; omega) (fun _ _ h => Nat.not_lt_zero _ h.2) (.ptr _ _ _ us.toArray.size (Sg.put_same _ _ _))
    simp [Instr.box, newVar, newRow, h3]
  · cases h

theorem RPs_map {ev : Operand → AV} {cev : Operand → Value} (he : ∀ x, Rv σ (ev x) (cev x)) : ∀ l : List (Nat × Operand), RPs σ (l.map fun p => (p.1, ev p.2)) (l.map fun p => (p.1, cev p.2)) := by
  intro l
  induction l with
  | nil => trivial
  | cons p l ih => exact ⟨rfl, he _, ih⟩

theorem placeS_eq {fs : Array Field} {places : List (Nat × Nat)} (h : fs.toList.mapM (fun f => (P.info? f.type).map fun i => (f.offset, i.size)) = some places) : placeS P fs = fun i => places.toArray[i]? := by
  funext i
  unfold placeS sizeB
  have key : ∀ (l : List Field) (r : List (Nat × Nat)), l.mapM (fun f => (P.info? f.type).map fun i => (f.offset, i.size)) = some r → ∀ i : Nat, (match l[i]? with
      | some f => (match (match P.info? f.type with | some i => some i.size | none => none) with | some s => some (f.offset, s) | none => none)
      | none => none) = r[i]? := by
    intro l
    induction l with
    | nil => intro r hr i; simp at hr; subst hr; simp
    | cons f l ih =>
      intro r hr i
      simp only [List.mapM_cons, Option.bind_eq_bind, Option.pure_def] at hr
      cases hi : P.info? f.type with
      | none => simp [hi] at hr
      | some ti =>
        cases hrest : l.mapM (fun f => (P.info? f.type).map fun i => (f.offset, i.size)) with
        | none => simp [hi, hrest] at hr
        | some rest =>
          simp [hi, hrest] at hr; subst hr
          cases i with
          | zero => simp [hi]
          | succ i => simpa using ih rest hrest i
  exact (key fs.toList places h i).trans (by simp)

theorem sized_places {fs : Array Field} (h : sized P fs = true) : ∃ places, fs.toList.mapM (fun f => (P.info? f.type).map fun i => (f.offset, i.size)) = some places := by
  unfold sized at h
  have key : ∀ l : List Field, l.all (fun f => (sizeB P f.type).isSome) = true → ∃ places, l.mapM (fun f => (P.info? f.type).map fun i => (f.offset, i.size)) = some places := by
    intro l
    induction l with
    | nil => intro _; exact ⟨[], by simp⟩
    | cons f l ih =>
      intro h
      simp only [List.all_cons, Bool.and_eq_true] at h
      obtain ⟨places, hp⟩ := ih h.2
      cases hi : P.info? f.type with
      | none => simp [sizeB, hi] at h
      | some ti => exact ⟨(f.offset, ti.size) :: places, by simp [List.mapM_cons, hi, hp]⟩
  exact key _ h

theorem build_ok (hr : Rel B G σ hp w) {t : TypeId} {ps : List (Nat × AV)} {vs : Array (Nat × Value)} {r : R} (h : doBuild P nx t ps = some r) (hp' : RPs σ ps vs.toList) : OkV P B G σ hp nx w (Instr.build t vs) r := by
  unfold doBuild at h
  split at h
  · rename_i z fs hz hu
    rcases cond_eq_some h with ⟨hb, h⟩ | ⟨_, h⟩
    · split at h
      · rename_i l hl
        refine OkV.rv hr h ?_
        obtain ⟨i, zv, hi, hz1, hz2⟩ := zeroA_spec hz
        obtain ⟨g1, g2⟩ := ofVal_cells (σ := σ) hz2
        obtain ⟨places, hpl⟩ := sized_places hb
        rw [placeS_eq hpl] at hl
        obtain ⟨c', e1, e2, e3⟩ := fill_ok hl hp' g1 g2
        refine ⟨.agg c', run_build w t vs c' ?_, .agg _ _ e2.1 e3 e2.2⟩
        unfold Program.built
        simp only [hi, hu, hz1, hpl]
        exact e1
      · cases h
    · cases h
  · rename_i z n e hz hu
    split at h
    · rename_i s hs
      split at h
      · rename_i l hl
        refine OkV.rv hr h ?_
        obtain ⟨i, zv, hi, hz1, hz2⟩ := zeroA_spec hz
        obtain ⟨g1, g2⟩ := ofVal_cells (σ := σ) hz2
        obtain ⟨c', e1, e2, e3⟩ := fill_ok hl hp' g1 g2
        refine ⟨.agg c', run_build w t vs c' ?_, .agg _ _ e2.1 e3 e2.2⟩
        unfold sizeB at hs
        split at hs
        · rename_i ie hie
          simp only [Option.some.injEq] at hs; subst hs
          unfold Program.built
          simp only [hi, hu, hz1, hie]
          exact e1
        · cases hs
      · cases h
    · cases h
  · cases h

theorem repl_get : ∀ (n : Nat) (z : List AV) (i : Nat), z.length ≠ 0 → (repl n z)[i]? = if i < n * z.length then z[i % z.length]? else none := by
  intro n
  induction n with
  | zero => intro z i _; simp [repl_z, repl_c]
  | succ n ih =>
    intro z i hz
    simp only [repl_z, repl_c]
    by_cases h : i < z.length
    · rw [List.getElem?_append_left h, Nat.mod_eq_of_lt h, if_pos]
      rw [Nat.succ_mul]; omega
    · rw [List.getElem?_append_right (by omega), ih z _ hz]
      have h2 : (i - z.length) % z.length = i % z.length := by
        rw [Nat.mod_eq_sub_mod (show i ≥ z.length by omega)]
      rw [h2]
      by_cases h3 : i - z.length < n * z.length
      · rw [if_pos h3, if_pos (by rw [Nat.succ_mul]; omega)]
      · rw [if_neg h3, if_neg (by rw [Nat.succ_mul]; omega)]

/-- Zero cells, again and again. -/
theorem zeros_ok {z : List AV} {c : Array Value} (h : RL σ z c.toList) (h1 : ∀ u, u ∈ c.toList → oneC u = true) (hz : z.length ≠ 0) (n m : Nat) (hm : m = n * z.length) :
    RL σ (repl n z) ((Array.range m).map (c[· % c.size]!)).toList ∧ ∀ u, u ∈ ((Array.range m).map (c[· % c.size]!)).toList → oneC u = true := by
  have hsz : z.length = c.size := by simpa using h.1
  have hpos : 0 < c.size := by omega
  refine ⟨⟨by simp [repl_length, hm], fun i x v hx hv => ?_⟩, fun u hu => ?_⟩
  · rw [repl_get n z i hz] at hx
    split at hx
    · rename_i hi
      rw [Array.getElem?_toList, Array.getElem?_map] at hv
      simp only [Array.getElem?_range, hm, hi, if_true, Option.map_some, Option.some.injEq] at hv
      subst hv
      have hlt : i % c.size < c.size := Nat.mod_lt _ hpos
      rw [hsz] at hx
      have := h.2 (i % c.size) x c[i % c.size] hx (by simp [hlt])
      simpa [getElem!_pos, hlt] using this
    · cases hx
  · simp only [Array.toList_map, List.mem_map] at hu
    obtain ⟨i, _, rfl⟩ := hu
    have hlt : i % c.size < c.size := Nat.mod_lt _ hpos
    rw [getElem!_pos c (i % c.size) hlt]
    exact h1 _ (by simp)

theorem range0 (f : Nat → Value) : (Array.range 0).map f = #[] := by simp
theorem buildSlice_ok (hr : Rel B G σ hp w) (hB : B ≤ w.heap.size) {t : TypeId} {len : Nat} {ps : List (Nat × AV)} {vs : Array (Nat × Value)} {r : R} (hf : Fresh σ nx r.nx) (h : doBuildSlice P nx t len ps = some r) (hp' : RPs σ ps vs.toList) :
    OkV P B G σ hp nx w (Instr.buildSlice t len vs) r := by
  unfold doBuildSlice at h
  split at h
  · rename_i el hu
    split at h
    · rename_i s z hs hz
      rcases cond_eq_some h with ⟨_, h⟩ | ⟨hb, h⟩
      · cases h
      · split at h
        · rename_i l hl
          simp only [rnew, Option.some.injEq] at h; subst h
          simp only [Bool.or_eq_false_iff, Bool.not_eq_false'] at hb
          have hs0 := beq_iff_f.1 hb.1.1
          have hzl := beq_iff.1 hb.1.2
          have hbig := blt_iff_f.1 hb.2
          obtain ⟨i, zv, hi, hz1, hz2⟩ := zeroA_spec hz
          obtain ⟨g1, g2⟩ := ofVal_cells (σ := σ) hz2
          have hn := hf nx (Nat.le_refl _) (Nat.lt_succ_self _)
          obtain ⟨k1, k2⟩ := zeros_ok g1 g2 (by omega) len (len * s) (by rw [hzl])
          obtain ⟨c', e1, e2, e3⟩ := fill_ok (c := (Array.range (len * s)).map (zv.cells[· % zv.cells.size]!)) hl hp' k1 k2
          refine OkV.newCells hr hB hn (c := c') (t := el) (fr := (0, 0)) (w' := { w with heap := w.heap.push (.cells c' el) }) (cv := .slice (some ⟨w.heap.size, 0, none⟩) len len) (by intro a h; cases h <;> rfl) ?_ rfl rfl rfl rfl (.of_RL e2 e3) (fun _ => by simpa using e2.1) (by have := e2.1; simp at this; omega) (fun _ _ h => Nat.not_lt_zero _ h.2) (.slc _ _ _ _ _ _ c'.size (Sg.put_same _ _ _))
          have hcap : ¬ (len * s > 2 ^ 24) := by omega
          simp only [Instr.buildSlice, Sem.run_bind, run_und hu, Result.andThen_ok, run_size hs, if_neg hcap, Sem.run_ite, Sem.run_pure]
          by_cases h0 : len * s = 0
          · have hc0 : (Array.range (len * s)).map (zv.cells[· % zv.cells.size]!) = #[] := by rw [h0]; simp
            rw [hc0] at e1
            have e1' : Instr.fill (placeA s) ((Array.range (len * s)).map ((#[] : Array Value)[· % (#[] : Array Value).size]!)) vs.toList = some c' := by
              rw [h0, range0]; exact e1
            simp only [h0, if_true, Result.andThen_ok]
            rw [h0] at e1'
            have : (fun i => some (i * s, s)) = placeA s := rfl
            rw [this, e1']
            simp [newRow]
          · simp only [if_neg h0, run_zero hi hz1, Result.andThen_ok]
            have : (fun i => some (i * s, s)) = placeA s := rfl
            rw [this, e1]
            simp [newRow]
        · cases h
    · cases h
  · cases h

theorem makeSlice_ok (hr : Rel B G σ hp w) (hB : B ≤ w.heap.size) {t : TypeId} {l c : AV} {vl vc : Value} {r : R} (hf : Fresh σ nx r.nx) (h : doMakeSlice P nx t l c = some r) (hl : Rv σ l vl) (hc : Rv σ c vc) :
    OkV P B G σ hp nx w (Instr.makeSlice t vl vc) r := by
  unfold doMakeSlice at h
  split at h
  · rename_i el kl n kc m hu
    rw [hl.inv_int, hc.inv_int]
    split at h
    · rename_i s bts z hs hbt hz
      rcases cond_eq_some h with ⟨_, h⟩ | ⟨hb, h⟩
      · cases h
      · simp only [rnew, Option.some.injEq] at h; subst h
        simp only [Bool.or_eq_false_iff, Bool.not_eq_false'] at hb
        have hs0 := beq_iff_f.1 hb.1.1.1.1
        have hzl := beq_iff.1 hb.1.1.1.2
        have hle := blt_iff_f.1 hb.1.1.2
        have hbig := blt_iff_f.1 hb.1.2
        have hbig2 := blt_iff_f.1 hb.2
        obtain ⟨i, zv, hi, hz1, hz2⟩ := zeroA_spec hz
        obtain ⟨g1, g2⟩ := ofVal_cells (σ := σ) hz2
        have hn := hf nx (Nat.le_refl _) (Nat.lt_succ_self _)
        obtain ⟨k1, k2⟩ := zeros_ok g1 g2 (by omega) m (m * s) (by rw [hzl])
        have hbytes : ∃ ie, P.info? el = some ie ∧ ie.bytes = bts := by
          unfold bytesB at hbt
          split at hbt
          · rename_i ie hie; exact ⟨ie, hie, by simpa using hbt⟩
          · cases hbt
        obtain ⟨ie, hie, rfl⟩ := hbytes
        have wm : IntKind.i64.wrap (Int.ofNat m) = m := fits_wrap (by show Nat.blt m 9223372036854775808 = true; rw [blt_iff]; omega)
        have wn : IntKind.i64.wrap (Int.ofNat n) = n := fits_wrap (by show Nat.blt n 9223372036854775808 = true; rw [blt_iff]; omega)
        let c' := (Array.range (m * s)).map (zv.cells[· % zv.cells.size]!)
        refine OkV.newCells hr hB hn (c := c') (t := el) (fr := (0, 0)) (w' := { w with heap := w.heap.push (.cells c' el) }) (cv := .slice (some ⟨w.heap.size, 0, none⟩) n m) (by intro a h; cases h <;> rfl) ?_ rfl rfl rfl rfl (.of_RL k1 k2) (fun _ => by simpa [c'] using k1.1) (Nat.le_of_eq (by simpa [c'] using k1.1)) (fun _ _ h => Nat.not_lt_zero _ h.2) (.slc _ _ _ _ _ _ c'.size (Sg.put_same _ _ _))
        have hprod : (ie.bytes : Int) * m ≤ 1048576 := by
          have hq : ((ie.bytes * m : Nat) : Int) ≤ 1048576 := by omega
          rwa [Int.natCast_mul] at hq
        have hp48 : (2 : Int) ^ 48 = 281474976710656 := rfl
        have e1a : decide ((m : Int) < 0) = false := decide_eq_false (by omega)
        have e1b : decide ((ie.bytes : Int) * m > 2 ^ 48) = false := decide_eq_false (by rw [hp48]; omega)
        have e2 : decide ((n : Int) < 0) = false := decide_eq_false (by omega)
        have e3 : decide ((n : Int) > m) = false := decide_eq_false (by omega)
        simp only [Instr.makeSlice, Sem.run_bind, run_und hu, Result.andThen_ok, asInt, asIntOf, Sem.run_pure, run_info hie, wm, wn, e1a, e1b, e2, e3, Bool.or_self, Bool.false_eq_true, if_false, run_askRoom, run_size hs, Int.toNat_natCast]
        by_cases h0 : m * s = 0
        · have hc0 : c' = #[] := by simp only [c']; rw [h0]; simp
          simp only [h0, if_true, Sem.run_ite, Sem.run_pure, Result.andThen_ok, hc0, range0]
          simp [newRow]
        · simp only [if_neg h0, Sem.run_ite, Sem.run_bind, run_zero hi hz1, Result.andThen_ok, Sem.run_pure]
          simp [newRow, c']
    · cases h
  · cases h

theorem makeMap_ok (hr : Rel B G σ hp w) (hB : B ≤ w.heap.size) {t : TypeId} {x : Option AV} {vx : Option Value} {r : R} (hf : Fresh σ nx r.nx) (h : doMakeMap P nx t x = some r) (hx : RO σ x vx) :
    OkV P B G σ hp nx w (Instr.makeMap t vx) r := by
  have key : ∀ {s : Sem Value}, s.run P w = .ok (.map (some w.heap.size)) { w with heap := w.heap.push (.map #[] 0) } → rnew nx (.map nx) (.map true [] 0) = some r → OkV P B G σ hp nx w s r := by
    intro s hs hh
    simp only [rnew, Option.some.injEq] at hh; subst hh
    have hn := hf nx (Nat.le_refl _) (Nat.lt_succ_self _)
    obtain ⟨h1, h2⟩ := hr.new (z := 0) (b := .map true [] 0) (o := .map #[] 0) (w' := { w with heap := w.heap.push (.map #[] 0) }) hB hn (.map true [] #[] 0 rfl (by simp)) rfl rfl rfl rfl
    exact ⟨_, _, _, hs, .map _ _ 0 (Sg.put_same _ _ _), h1, h2⟩
  unfold doMakeMap at h
  split at h
  · rename_i kt et hu
    cases vx with
    | some u => exact hx.elim
    | none => exact key (by simp [Instr.makeMap]) h
  · rename_i kt et k n hu
    cases vx with
    | none => exact hx.elim
    | some u =>
      have := Rv.inv_int hx
      subst this
      exact key (by simp [Instr.makeMap, run_und hu, asInt, asIntOf]) h
  · cases h

/-! ### Stores -/
/-- Cells written over. -/
theorem put_ok (hr : Rel B G σ hp w) {v : AV} {id off b z : Nat} {vs : List AV} {us : List Value} {r : R} (h : putB hp nx v id off vs = some r) (hs : σ id = some (b, z)) (hv : RL σ vs us) (h1 : ∀ u, u ∈ us → oneC u = true) :
    ∃ w', (storeCells ⟨b, off, none⟩ us).run P w = .ok () w' ∧ r.v = v ∧ Rel B G σ (app r.dl hp) w' ∧ Ext σ σ hp (app r.dl hp) nx r.nx w w' := by
  unfold putB at h
  split at h
  · rename_i o tt l hg
    split at h
    · rename_i l' hl'
      simp only [rset, Option.some.injEq] at h; subst h
      obtain ⟨k, z', c, t, fr, hs', hk, hz, ho, hl, hf, hc, hB⟩ := hr.cells hg
      rw [hs] at hs'; simp at hs'; obtain ⟨rfl, rfl⟩ := hs'
      obtain ⟨g1, g2, g3⟩ := putL_spec _ _ _ _ hl'
      have hlen := hv.1
      have hb : us = [] ∨ off + 0 + us.length ≤ c.size := by
        rcases g2 with g2 | g2
        · left; subst g2; exact hv.of_nil
        · right; omega
      obtain ⟨w', c', r1, r2, r3, r4, r5, r6, r7, r8, r9⟩ := run_storeCells (P := P) us w c off 0 hk hb (fun j hj => hf j (.inl hj)) h1
      refine ⟨w', r1, rfl, ?_⟩
      refine hr.set hg rfl hs r2 ?_ rfl r6 r5 r7 r8 r9 nx
      refine .cells true o tt l' c' t fr (hr.cellsT hg hs hk) (by omega) (fun e => by rw [g1, ho e, r3]) (by omega) (by rw [r3]; exact hf) ?_ ?_
      · intro i u hu
        rw [r4 i] at hu
        split at hu
        · exact h1 u (List.mem_of_getElem? hu)
        · exact hc.2 i u hu
      · intro i x hx
        rw [g3 i] at hx
        rw [r4 i]
        split at hx
        · rename_i hi
          rw [if_pos (by omega)]
          obtain ⟨u, hu, hxu⟩ := hv.get hx
          exact ⟨u, by simpa using hu, hxu⟩
        · rename_i hi
          rw [if_neg (by omega)]
          exact hc.1 i x hx
    · cases h
  · cases h

theorem store_ok (hr : Rel B G σ hp w) {t : TypeId} {a v : AV} {va vv : Value} {r : R} (h : doStore P hp nx t a v = some r) (ha : Rv σ a va) (hv : Rv σ v vv) : OkU P B G σ hp nx w (Instr.storeAt t va vv) r := by
  unfold doStore at h
  split at h
  · rename_i id off n cs hsz hcs
    rcases cond_eq_some h with ⟨hb, h⟩ | ⟨_, h⟩
    · have hn := beq_iff.1 hb
      obtain ⟨b, z, hs, rfl⟩ := ha.inv_ptr
      obtain ⟨us, h1, h2, h3⟩ := hv.cells hcs
      obtain ⟨w', hrun, hvv, hrel, hext⟩ := put_ok (P := P) hr h hs h1 h2
      refine ⟨σ, w', ?_, hvv, hrel, hext⟩
      have hcz : vv.cells.size = n := by rw [h3]; simp; rw [← h1.1]; exact hn
      have hun : us.length = n := by rw [← h1.1]; exact hn
      simp [Instr.storeAt, Instr.sureAddr, storeVar, run_size hsz, hun, h3, hrun]
    · cases h
  · cases h

end
end Go.Ex
