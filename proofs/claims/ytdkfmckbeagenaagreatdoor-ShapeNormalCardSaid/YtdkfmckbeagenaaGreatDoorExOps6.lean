/-
  The abstract machine: building, new blocks, stores.
 The abstract machine: maps.
 The abstract machine: append, copy, clear.
-/
import Derived.Test.YtdkfmckbeagenaaGreatDoorExOps3
set_option linter.unusedVariables false
set_option linter.unusedSimpArgs false
namespace Go.Ex

section
variable {P : Program} {B G : Nat} {σ : Sg} {hp : Tr Blk} {nx : Nat} {w : World}

theorem ofCell_ok {v : Value} {a : AV} (h : ofCell v = some a) : Rv σ a v ∧ oneC v = true := by
 unfold ofCell at h
 split at h <;> first
  | (simp only [Option.some.injEq] at h; subst h; exact ⟨by constructor, rfl⟩)
  | cases h
theorem ofCells_ok : ∀ {vs : List Value} {l : List AV}, ofCells vs = some l → RL σ l vs ∧ ∀ u, u ∈ vs → oneC u = true := by
 intro vs
 induction vs with
 | nil => intro l h; simp [ofCells] at h; subst h; exact ⟨.nil, by simp⟩
 | cons v vs ih =>
  intro l h
  simp only [ofCells] at h
  split at h
  ·rename_i a r ha hr
   simp only [Option.some.injEq] at h; subst h
   obtain ⟨h1, h2⟩ := ih hr
   refine ⟨.cons (ofCell_ok ha).1 h1, fun u hu => ?_⟩
   rcases List.mem_cons.1 hu with rfl | hu
   ·exact (ofCell_ok (σ := σ) ha).2
   ·exact h2 u hu
  ·cases h
theorem ofVal_ok {v : Value} {a : AV} (h : ofVal v = some a) : Rv σ a v := by
 unfold ofVal at h
 split at h
 ·rename_i cs
  split at h
  ·rename_i l hl
   simp only [Option.some.injEq] at h; subst h
   obtain ⟨h1, h2⟩ := ofCells_ok (σ := σ) hl
   exact .agg l cs.toList h1.1 h2 h1.2
  ·cases h
 ·exact (ofCell_ok h).1
theorem ofVal_cells {v : Value} {a : AV} (h : ofVal v = some a) : RL σ a.cells v.cells.toList ∧ (∀ u, u ∈ v.cells.toList → oneC u = true) := by
 unfold ofVal at h
 split at h
 ·rename_i cs
  split at h
  ·rename_i l hl
   simp only [Option.some.injEq] at h; subst h
   exact ofCells_ok hl
  ·cases h
 ·obtain ⟨h1, h2⟩ := ofCell_ok (σ := σ) h
  rename_i hn
  have hc : v.cells = #[v] := by cases v <;> first | rfl | exact absurd rfl (hn _)
  have ha : a.cells = [a] := by
   cases h1 <;> first | rfl | (simp [oneC] at h2)
  rw [hc, ha]
  exact ⟨.cons h1 .nil, by simpa using h2⟩
theorem zeroA_spec {t : TypeId} {z : AV} (h : zeroA P t = some z) : ∃ i zv, P.info? t = some i ∧ i.zero = some zv ∧ ofVal zv = some z := by
 unfold zeroA at h
 split at h
 ·rename_i i hi
  split at h
  ·rename_i zv hz; exact ⟨i, zv, hi, hz, h⟩
  ·cases h
 ·cases h
theorem run_zero {t : TypeId} {i : TypeInfo} {zv : Value} (hi : P.info? t = some i) (hz : i.zero = some zv) : (zeroValue t).run P w = .ok zv w := by
 simp [zeroValue, run_info hi, hz]
theorem RC.of_RL {l : List AV} {c : Array Value} (h : RL σ l c.toList) (h1 : ∀ u, u ∈ c.toList → oneC u = true) : RC σ l c :=
 ⟨fun i x hx => let ⟨v, hv, hr⟩ := h.get hx; ⟨v, by simpa using hv, hr⟩, fun i v hv => h1 v (List.mem_of_getElem? (by simpa using hv))⟩
theorem RC.mono {τ : Sg} (hs : Sub σ τ) {l : List AV} {c : Array Value} (h : RC σ l c) : RC τ l c := ⟨fun i x hx => let ⟨v, hv, hr⟩ := h.1 i x hx; ⟨v, hv, hr.mono hs⟩, h.2⟩
theorem OkV.newCells (hr : Rel B G σ hp w) (hB : B ≤ w.heap.size) (hf : σ nx = none) {s : Sem Value} {v : AV} {cv : Value} {w' : World} {o : Bool} {tt : Option TypeId} {l : List AV} {c : Array Value} {t : TypeId} {fr : Nat × Nat}
  (htt : ∀ a, tt = some a → t = a) (hrun : s.run P w = .ok cv w') (hh : w'.heap = w.heap.push (.cells c t fr)) (hos : w'.os = w.os) (htape : w'.tape = w.tape) (hout : w'.output = w.output)
  (hc : RC σ l c) (ho : o = false → l.length = c.size) (hl : l.length ≤ c.size) (hfr : ∀ i : Nat, (i < c.size ∨ o = false) → ¬ (fr.1 ≤ i ∧ i < fr.2))
  (hv : Rv (σ.put nx (w.heap.size, c.size)) v cv) : OkV P B G σ hp nx w s ⟨v, [(nx, some (.cells true o tt l))], nx + 1⟩ := by
 have hsub : Sub σ (σ.put nx (w.heap.size, c.size)) := Sub.put _ hf
 have hc' := hc.mono hsub
 obtain ⟨h1, h2⟩ := hr.new (z := c.size) (b := .cells true o tt l) (o := .cells c t fr) hB hf (.cells true o tt l c t fr htt rfl ho hl hfr hc'.2 hc'.1) hh hos htape hout
 exact ⟨_, w', cv, hrun, hv, h1, h2⟩
theorem alloc_ok (hr : Rel B G σ hp w) (hB : B ≤ w.heap.size) {t : TypeId} {r : R} (hf : Fresh σ nx r.nx) (h : doAlloc P nx t = some r) : OkV P B G σ hp nx w (Instr.alloc t true (.tuple #[])) r := by
 unfold doAlloc at h
 split at h
 ·rename_i z hz
  simp only [rnew, Option.some.injEq] at h; subst h
  obtain ⟨i, zv, hi, hz1, hz2⟩ := zeroA_spec hz
  obtain ⟨g1, g2⟩ := ofVal_cells (σ := σ) hz2
  have hn := hf nx (Nat.le_refl _) (Nat.lt_succ_self _)
  refine OkV.newCells hr hB hn (c := zv.cells) (t := t) (fr := (0, 0)) (w' := { w with heap := w.heap.push (.cells zv.cells t) }) (cv := .pointer (some ⟨w.heap.size, 0, none⟩)) (by intro a h; cases h <;> rfl) ?_ rfl rfl rfl rfl (.of_RL g1 g2) (fun _ => by simpa using g1.1) (by have := g1.1; simp at this; omega) (fun _ _ h => Nat.not_lt_zero _ h.2) (.ptr _ _ _ zv.cells.size (Sg.put_same _ _ _))
  simp [Instr.alloc, run_zero hi hz1, newVar, newRow]
 ·cases h
theorem box_ok (hr : Rel B G σ hp w) (hB : B ≤ w.heap.size) {t : TypeId} {x : AV} {vx : Value} {r : R} (hf : Fresh σ nx r.nx) (h : doBox nx x = some r) (hx : Rv σ x vx) : OkV P B G σ hp nx w (Instr.box t vx) r := by
 unfold doBox at h
 split at h
 ·rename_i cs hcs
  simp only [rnew, Option.some.injEq] at h; subst h
  obtain ⟨us, h1, h2, h3⟩ := hx.cells hcs
  have hn := hf nx (Nat.le_refl _) (Nat.lt_succ_self _)
  refine OkV.newCells hr hB hn (c := us.toArray) (t := t) (fr := (0, 0)) (w' := { w with heap := w.heap.push (.cells us.toArray t) }) (cv := .pointer (some ⟨w.heap.size, 0, none⟩)) (by intro a h; cases h <;> rfl) ?_ rfl rfl rfl rfl (.of_RL (by simpa using h1) (by simpa using h2)) (fun _ => by simpa using h1.1) (by have := h1.1; simp; omega) (fun _ _ h => Nat.not_lt_zero _ h.2) (.ptr _ _ _ us.toArray.size (Sg.put_same _ _ _))
  simp [Instr.box, newVar, newRow, h3]
 ·cases h
theorem RPs_map {ev : Operand → AV} {cev : Operand → Value} (he : ∀ x, Rv σ (ev x) (cev x)) : ∀ l : List (Nat × Operand), RPs σ (l.map fun p => (p.1, ev p.2)) (l.map fun p => (p.1, cev p.2)) := by
 intro l
 induction l with
 | nil => trivial
 | cons p l ih => exact ⟨rfl, he _, ih⟩
theorem placeS_eq {fs : Array Field} {places : List (Nat × Nat)} (h : fs.toList.mapM (fun f => (P.info? f.type).map fun i => (f.offset, i.size)) = some places) : placeS P fs = fun i => places.toArray[i]? := by
 funext i
 unfold placeS sizeB
 have key : ∀ (l : List Field) (r : List (Nat × Nat)), l.mapM (fun f => (P.info? f.type).map fun i => (f.offset, i.size)) = some r → ∀ i : Nat, (match l[i]? with
   | some f => (match (match P.info? f.type with | some i => some i.size | none => none) with | some s => some (f.offset, s) | none => none)
   | none => none) = r[i]? := by
  intro l
  induction l with
  | nil => intro r hr i; simp at hr; subst hr; simp
  | cons f l ih =>
   intro r hr i
   simp only [List.mapM_cons, Option.bind_eq_bind, Option.pure_def] at hr
   cases hi : P.info? f.type with
   | none => simp [hi] at hr
   | some ti =>
    cases hrest : l.mapM (fun f => (P.info? f.type).map fun i => (f.offset, i.size)) with
    | none => simp [hi, hrest] at hr
    | some rest =>
     simp [hi, hrest] at hr; subst hr
     cases i with
     | zero => simp [hi]
     | succ i => simpa using ih rest hrest i
 exact (key fs.toList places h i).trans (by simp)
theorem sized_places {fs : Array Field} (h : sized P fs = true) : ∃ places, fs.toList.mapM (fun f => (P.info? f.type).map fun i => (f.offset, i.size)) = some places := by
 unfold sized at h
 have key : ∀ l : List Field, l.all (fun f => (sizeB P f.type).isSome) = true → ∃ places, l.mapM (fun f => (P.info? f.type).map fun i => (f.offset, i.size)) = some places := by
  intro l
  induction l with
  | nil => intro _; exact ⟨[], by simp⟩
  | cons f l ih =>
   intro h
   simp only [List.all_cons, Bool.and_eq_true] at h
   obtain ⟨places, hp⟩ := ih h.2
   cases hi : P.info? f.type with
   | none => simp [sizeB, hi] at h
   | some ti => exact ⟨(f.offset, ti.size) :: places, by simp [List.mapM_cons, hi, hp]⟩
 exact key _ h
theorem build_ok (hr : Rel B G σ hp w) {t : TypeId} {ps : List (Nat × AV)} {vs : Array (Nat × Value)} {r : R} (h : doBuild P nx t ps = some r) (hp' : RPs σ ps vs.toList) : OkV P B G σ hp nx w (Instr.build t vs) r := by
 unfold doBuild at h
 split at h
 ·rename_i z fs hz hu
  rcases cond_eq_some h with ⟨hb, h⟩ | ⟨_, h⟩
  ·split at h
   ·rename_i l hl
    refine OkV.rv hr h ?_
    obtain ⟨i, zv, hi, hz1, hz2⟩ := zeroA_spec hz
    obtain ⟨g1, g2⟩ := ofVal_cells (σ := σ) hz2
    obtain ⟨places, hpl⟩ := sized_places hb
    rw [placeS_eq hpl] at hl
    obtain ⟨c', e1, e2, e3⟩ := fill_ok hl hp' g1 g2
    refine ⟨.agg c', run_build w t vs c' ?_, .agg _ _ e2.1 e3 e2.2⟩
    unfold Program.built
    simp only [hi, hu, hz1, hpl]
    exact e1
   ·cases h
  ·cases h
 ·rename_i z n e hz hu
  split at h
  ·rename_i s hs
   split at h
   ·rename_i l hl
    refine OkV.rv hr h ?_
    obtain ⟨i, zv, hi, hz1, hz2⟩ := zeroA_spec hz
    obtain ⟨g1, g2⟩ := ofVal_cells (σ := σ) hz2
    obtain ⟨c', e1, e2, e3⟩ := fill_ok hl hp' g1 g2
    refine ⟨.agg c', run_build w t vs c' ?_, .agg _ _ e2.1 e3 e2.2⟩
    unfold sizeB at hs
    split at hs
    ·rename_i ie hie
     simp only [Option.some.injEq] at hs; subst hs
     unfold Program.built
     simp only [hi, hu, hz1, hie]
     exact e1
    ·cases hs
   ·cases h
  ·cases h
 ·cases h
theorem repl_get : ∀ (n : Nat) (z : List AV) (i : Nat), z.length ≠ 0 → (repl n z)[i]? = if i < n * z.length then z[i % z.length]? else none := by
 intro n
 induction n with
 | zero => intro z i _; simp [repl_z, repl_c]
 | succ n ih =>
  intro z i hz
  simp only [repl_z, repl_c]
  by_cases h : i < z.length
  ·rw [List.getElem?_append_left h, Nat.mod_eq_of_lt h, if_pos]
   rw [Nat.succ_mul]; omega
  ·rw [List.getElem?_append_right (by omega), ih z _ hz]
   have h2 : (i - z.length) % z.length = i % z.length := by
    rw [Nat.mod_eq_sub_mod (show i ≥ z.length by omega)]
   rw [h2]
   by_cases h3 : i - z.length < n * z.length
   ·rw [if_pos h3, if_pos (by rw [Nat.succ_mul]; omega)]
   ·rw [if_neg h3, if_neg (by rw [Nat.succ_mul]; omega)]
theorem zeros_ok {z : List AV} {c : Array Value} (h : RL σ z c.toList) (h1 : ∀ u, u ∈ c.toList → oneC u = true) (hz : z.length ≠ 0) (n m : Nat) (hm : m = n * z.length) :
  RL σ (repl n z) ((Array.range m).map (c[· % c.size]!)).toList ∧ ∀ u, u ∈ ((Array.range m).map (c[· % c.size]!)).toList → oneC u = true := by
 have hsz : z.length = c.size := by simpa using h.1
 have hpos : 0 < c.size := by omega
 refine ⟨⟨by simp [repl_length, hm], fun i x v hx hv => ?_⟩, fun u hu => ?_⟩
 ·rw [repl_get n z i hz] at hx
  split at hx
  ·rename_i hi
   rw [Array.getElem?_toList, Array.getElem?_map] at hv
   simp only [Array.getElem?_range, hm, hi, if_true, Option.map_some, Option.some.injEq] at hv
   subst hv
   have hlt : i % c.size < c.size := Nat.mod_lt _ hpos
   rw [hsz] at hx
   have := h.2 (i % c.size) x c[i % c.size] hx (by simp [hlt])
   simpa [getElem!_pos, hlt] using this
  ·cases hx
 ·simp only [Array.toList_map, List.mem_map] at hu
  obtain ⟨i, _, rfl⟩ := hu
  have hlt : i % c.size < c.size := Nat.mod_lt _ hpos
  rw [getElem!_pos c (i % c.size) hlt]
  exact h1 _ (by simp)
theorem range0 (f : Nat → Value) : (Array.range 0).map f = #[] := by simp
theorem buildSlice_ok (hr : Rel B G σ hp w) (hB : B ≤ w.heap.size) {t : TypeId} {len : Nat} {ps : List (Nat × AV)} {vs : Array (Nat × Value)} {r : R} (hf : Fresh σ nx r.nx) (h : doBuildSlice P nx t len ps = some r) (hp' : RPs σ ps vs.toList) :
  OkV P B G σ hp nx w (Instr.buildSlice t len vs) r := by
 unfold doBuildSlice at h
 split at h
 ·rename_i el hu
  split at h
  ·rename_i s z hs hz
   rcases cond_eq_some h with ⟨_, h⟩ | ⟨hb, h⟩
   ·cases h
   ·split at h
    ·rename_i l hl
     simp only [rnew, Option.some.injEq] at h; subst h
     simp only [Bool.or_eq_false_iff, Bool.not_eq_false'] at hb
     have hs0 := beq_iff_f.1 hb.1.1
     have hzl := beq_iff.1 hb.1.2
     have hbig := blt_iff_f.1 hb.2
     obtain ⟨i, zv, hi, hz1, hz2⟩ := zeroA_spec hz
     obtain ⟨g1, g2⟩ := ofVal_cells (σ := σ) hz2
     have hn := hf nx (Nat.le_refl _) (Nat.lt_succ_self _)
     obtain ⟨k1, k2⟩ := zeros_ok g1 g2 (by omega) len (len * s) (by rw [hzl])
     obtain ⟨c', e1, e2, e3⟩ := fill_ok (c := (Array.range (len * s)).map (zv.cells[· % zv.cells.size]!)) hl hp' k1 k2
     refine OkV.newCells hr hB hn (c := c') (t := el) (fr := (0, 0)) (w' := { w with heap := w.heap.push (.cells c' el) }) (cv := .slice (some ⟨w.heap.size, 0, none⟩) len len) (by intro a h; cases h <;> rfl) ?_ rfl rfl rfl rfl (.of_RL e2 e3) (fun _ => by simpa using e2.1) (by have := e2.1; simp at this; omega) (fun _ _ h => Nat.not_lt_zero _ h.2) (.slc _ _ _ _ _ _ c'.size (Sg.put_same _ _ _))
     have hcap : ¬ (len * s > 2 ^ 24) := by omega
     simp only [Instr.buildSlice, Sem.run_bind, run_und hu, Result.andThen_ok, run_size hs, if_neg hcap, Sem.run_ite, Sem.run_pure]
     by_cases h0 : len * s = 0
     ·have hc0 : (Array.range (len * s)).map (zv.cells[· % zv.cells.size]!) = #[] := by rw [h0]; simp
      rw [hc0] at e1
      have e1' : Instr.fill (placeA s) ((Array.range (len * s)).map ((#[] : Array Value)[· % (#[] : Array Value).size]!)) vs.toList = some c' := by
       rw [h0, range0]; exact e1
      simp only [h0, if_true, Result.andThen_ok]
      rw [h0] at e1'
      have : (fun i => some (i * s, s)) = placeA s := rfl
      rw [this, e1']
      simp [newRow]
     ·simp only [if_neg h0, run_zero hi hz1, Result.andThen_ok]
      have : (fun i => some (i * s, s)) = placeA s := rfl
      rw [this, e1]
      simp [newRow]
    ·cases h
  ·cases h
 ·cases h
theorem makeSlice_ok (hr : Rel B G σ hp w) (hB : B ≤ w.heap.size) {t : TypeId} {l c : AV} {vl vc : Value} {r : R} (hf : Fresh σ nx r.nx) (h : doMakeSlice P nx t l c = some r) (hl : Rv σ l vl) (hc : Rv σ c vc) :
  OkV P B G σ hp nx w (Instr.makeSlice t vl vc) r := by
 unfold doMakeSlice at h
 split at h
 ·rename_i el kl n kc m hu
  rw [hl.inv_int, hc.inv_int]
  split at h
  ·rename_i s bts z hs hbt hz
   rcases cond_eq_some h with ⟨_, h⟩ | ⟨hb, h⟩
   ·cases h
   ·simp only [rnew, Option.some.injEq] at h; subst h
    simp only [Bool.or_eq_false_iff, Bool.not_eq_false'] at hb
    have hs0 := beq_iff_f.1 hb.1.1.1.1
    have hzl := beq_iff.1 hb.1.1.1.2
    have hle := blt_iff_f.1 hb.1.1.2
    have hbig := blt_iff_f.1 hb.1.2
    have hbig2 := blt_iff_f.1 hb.2
    obtain ⟨i, zv, hi, hz1, hz2⟩ := zeroA_spec hz
    obtain ⟨g1, g2⟩ := ofVal_cells (σ := σ) hz2
    have hn := hf nx (Nat.le_refl _) (Nat.lt_succ_self _)
    obtain ⟨k1, k2⟩ := zeros_ok g1 g2 (by omega) m (m * s) (by rw [hzl])
    have hbytes : ∃ ie, P.info? el = some ie ∧ ie.bytes = bts := by
     unfold bytesB at hbt
     split at hbt
     ·rename_i ie hie; exact ⟨ie, hie, by simpa using hbt⟩
     ·cases hbt
    obtain ⟨ie, hie, rfl⟩ := hbytes
    have wm : IntKind.i64.wrap (Int.ofNat m) = m := fits_wrap (by show Nat.blt m 9223372036854775808 = true; rw [blt_iff]; omega)
    have wn : IntKind.i64.wrap (Int.ofNat n) = n := fits_wrap (by show Nat.blt n 9223372036854775808 = true; rw [blt_iff]; omega)
    let c' := (Array.range (m * s)).map (zv.cells[· % zv.cells.size]!)
    refine OkV.newCells hr hB hn (c := c') (t := el) (fr := (0, 0)) (w' := { w with heap := w.heap.push (.cells c' el) }) (cv := .slice (some ⟨w.heap.size, 0, none⟩) n m) (by intro a h; cases h <;> rfl) ?_ rfl rfl rfl rfl (.of_RL k1 k2) (fun _ => by simpa [c'] using k1.1) (Nat.le_of_eq (by simpa [c'] using k1.1)) (fun _ _ h => Nat.not_lt_zero _ h.2) (.slc _ _ _ _ _ _ c'.size (Sg.put_same _ _ _))
    have hprod : (ie.bytes : Int) * m ≤ 1048576 := by
     have hq : ((ie.bytes * m : Nat) : Int) ≤ 1048576 := by omega
     rwa [Int.natCast_mul] at hq
    have hp48 : (2 : Int) ^ 48 = 281474976710656 := rfl
    have e1a : decide ((m : Int) < 0) = false := decide_eq_false (by omega)
    have e1b : decide ((ie.bytes : Int) * m > 2 ^ 48) = false := decide_eq_false (by rw [hp48]; omega)
    have e2 : decide ((n : Int) < 0) = false := decide_eq_false (by omega)
    have e3 : decide ((n : Int) > m) = false := decide_eq_false (by omega)
    simp only [Instr.makeSlice, Sem.run_bind, run_und hu, Result.andThen_ok, asInt, asIntOf, Sem.run_pure, run_info hie, wm, wn, e1a, e1b, e2, e3, Bool.or_self, Bool.false_eq_true, if_false, run_askRoom, run_size hs, Int.toNat_natCast]
    by_cases h0 : m * s = 0
    ·have hc0 : c' = #[] := by simp only [c']; rw [h0]; simp
     simp only [h0, if_true, Sem.run_ite, Sem.run_pure, Result.andThen_ok, hc0, range0]
     simp [newRow]
    ·simp only [if_neg h0, Sem.run_ite, Sem.run_bind, run_zero hi hz1, Result.andThen_ok, Sem.run_pure]
     simp [newRow, c']
  ·cases h
 ·cases h
theorem makeMap_ok (hr : Rel B G σ hp w) (hB : B ≤ w.heap.size) {t : TypeId} {x : Option AV} {vx : Option Value} {r : R} (hf : Fresh σ nx r.nx) (h : doMakeMap P nx t x = some r) (hx : RO σ x vx) :
  OkV P B G σ hp nx w (Instr.makeMap t vx) r := by
 have key : ∀ {s : Sem Value}, s.run P w = .ok (.map (some w.heap.size)) { w with heap := w.heap.push (.map #[] 0) } → rnew nx (.map nx) (.map true [] 0) = some r → OkV P B G σ hp nx w s r := by
  intro s hs hh
  simp only [rnew, Option.some.injEq] at hh; subst hh
  have hn := hf nx (Nat.le_refl _) (Nat.lt_succ_self _)
  obtain ⟨h1, h2⟩ := hr.new (z := 0) (b := .map true [] 0) (o := .map #[] 0) (w' := { w with heap := w.heap.push (.map #[] 0) }) hB hn (.map true [] #[] 0 rfl (by simp)) rfl rfl rfl rfl
  exact ⟨_, _, _, hs, .map _ _ 0 (Sg.put_same _ _ _), h1, h2⟩
 unfold doMakeMap at h
 split at h
 ·rename_i kt et hu
  cases vx with
  | some u => exact hx.elim
  | none => exact key (by simp [Instr.makeMap]) h
 ·rename_i kt et k n hu
  cases vx with
  | none => exact hx.elim
  | some u =>
   have := Rv.inv_int hx
   subst this
   exact key (by simp [Instr.makeMap, run_und hu, asInt, asIntOf]) h
 ·cases h
theorem put_ok (hr : Rel B G σ hp w) {v : AV} {id off b z : Nat} {vs : List AV} {us : List Value} {r : R} (h : putB hp nx v id off vs = some r) (hs : σ id = some (b, z)) (hv : RL σ vs us) (h1 : ∀ u, u ∈ us → oneC u = true) :
  ∃ w', (storeCells ⟨b, off, none⟩ us).run P w = .ok () w' ∧ r.v = v ∧ Rel B G σ (app r.dl hp) w' ∧ Ext σ σ hp (app r.dl hp) nx r.nx w w' := by
 unfold putB at h
 split at h
 ·rename_i o tt l hg
  split at h
  ·rename_i l' hl'
   simp only [rset, Option.some.injEq] at h; subst h
   obtain ⟨k, z', c, t, fr, hs', hk, hz, ho, hl, hf, hc, hB⟩ := hr.cells hg
   rw [hs] at hs'; simp at hs'; obtain ⟨rfl, rfl⟩ := hs'
   obtain ⟨g1, g2, g3⟩ := putL_spec _ _ _ _ hl'
   have hlen := hv.1
   have hb : us = [] ∨ off + 0 + us.length ≤ c.size := by
    rcases g2 with g2 | g2
    ·left; subst g2; exact hv.of_nil
    ·right; omega
   obtain ⟨w', c', r1, r2, r3, r4, r5, r6, r7, r8, r9⟩ := run_storeCells (P := P) us w c off 0 hk hb (fun j hj => hf j (.inl hj)) h1
   refine ⟨w', r1, rfl, ?_⟩
   refine hr.set hg rfl hs r2 ?_ rfl r6 r5 r7 r8 r9 nx
   refine .cells true o tt l' c' t fr (hr.cellsT hg hs hk) (by omega) (fun e => by rw [g1, ho e, r3]) (by omega) (by rw [r3]; exact hf) ?_ ?_
   ·intro i u hu
    rw [r4 i] at hu
    split at hu
    ·exact h1 u (List.mem_of_getElem? hu)
    ·exact hc.2 i u hu
   ·intro i x hx
    rw [g3 i] at hx
    rw [r4 i]
    split at hx
    ·rename_i hi
     rw [if_pos (by omega)]
     obtain ⟨u, hu, hxu⟩ := hv.get hx
     exact ⟨u, by simpa using hu, hxu⟩
    ·rename_i hi
     rw [if_neg (by omega)]
     exact hc.1 i x hx
  ·cases h
 ·cases h
theorem store_ok (hr : Rel B G σ hp w) {t : TypeId} {a v : AV} {va vv : Value} {r : R} (h : doStore P hp nx t a v = some r) (ha : Rv σ a va) (hv : Rv σ v vv) : OkU P B G σ hp nx w (Instr.storeAt t va vv) r := by
 unfold doStore at h
 split at h
 ·rename_i id off n cs hsz hcs
  rcases cond_eq_some h with ⟨hb, h⟩ | ⟨_, h⟩
  ·have hn := beq_iff.1 hb
   obtain ⟨b, z, hs, rfl⟩ := ha.inv_ptr
   obtain ⟨us, h1, h2, h3⟩ := hv.cells hcs
   obtain ⟨w', hrun, hvv, hrel, hext⟩ := put_ok (P := P) hr h hs h1 h2
   refine ⟨σ, w', ?_, hvv, hrel, hext⟩
   have hcz : vv.cells.size = n := by rw [h3]; simp; rw [← h1.1]; exact hn
   have hun : us.length = n := by rw [← h1.1]; exact hn
   simp [Instr.storeAt, Instr.sureAddr, storeVar, run_size hsz, hun, h3, hrun]
  ·cases h
 ·cases h
end
end Go.Ex
set_option linter.unusedVariables false
set_option linter.unusedSimpArgs false
namespace Go.Ex

section
variable {P : Program} {B G : Nat} {σ : Sg} {hp : Tr Blk} {nx : Nat} {w : World}

theorem run_getMap {r : Nat} {es : Array MapEntry} {c : Nat} (h : w.heap[r]? = some (.map es c)) : (getObj r).run P w = .ok (.map es c) w := by simp [getObj, Sem.run, h]
theorem run_setMap {r : Nat} {es : Array MapEntry} {c : Nat} (h : w.heap[r]? = some (.map es c)) (o : Obj) : (setObj r o).run P w = .ok () { w with heap := w.heap.setIfInBounds r o } := by simp [setObj, Sem.run, h]
def RE (σ : Sg) (es : List (AV × AV × Nat)) (ms : List MapEntry) : Prop :=
 es.length = ms.length ∧ ∀ (i : Nat) x e, es[i]? = some x → ms[i]? = some e → Rv σ x.1 e.key ∧ Rv σ x.2.1 e.val ∧ e.born = x.2.2
theorem RE.uncons {x : AV × AV × Nat} {es : List (AV × AV × Nat)} {ms : List MapEntry} (h : RE σ (x :: es) ms) : ∃ e ms', ms = e :: ms' ∧ (Rv σ x.1 e.key ∧ Rv σ x.2.1 e.val ∧ e.born = x.2.2) ∧ RE σ es ms' := by
 cases ms with
 | nil => have := h.1; simp at this
 | cons e ms' => exact ⟨e, ms', rfl, h.2 0 x e rfl rfl, by have := h.1; simpa using this, fun i y f hy hf => h.2 (i + 1) y f (by simpa using hy) (by simpa using hf)⟩
theorem Rel.map (hr : Rel B G σ hp w) {id : Nat} {wr : Bool} {es : List (AV × AV × Nat)} {c : Nat} (h : hp.get id = some (.map wr es c)) :
  ∃ k z a, σ id = some (k, z) ∧ w.heap[k]? = some (.map a c) ∧ RE σ es a.toList ∧ (wr = true → B ≤ k) := by
 obtain ⟨k, z, ob, hs, hk, hro, hB⟩ := hr.blk id _ h
 cases hro with
 | map _ _ a _ hl h => exact ⟨k, z, a, hs, hk, ⟨by simpa using hl, fun i x e hx he => h i x e hx (by simpa using he)⟩, hB⟩
theorem keyEq_ok {kind : TypeDesc} {a b : AV} {ca cb : Value} {r : Bool} (h : keyEq kind a b = some r) (ha : Rv σ a ca) (hb : Rv σ b cb) : Instr.sameNow kind ca cb = some r := by
 unfold keyEq at h
 split at h
 ·rw [ha.inv_int, hb.inv_int]
  rcases cond_eq_some h with ⟨hk, h⟩ | ⟨_, h⟩
  ·simp at h; subst h; rw [eqK_iff hk, eqI_eq]; simp [Instr.sameNow]
  ·cases h
 ·obtain ⟨s, rfl, rfl⟩ := ha.inv_str; obtain ⟨u, rfl, rfl⟩ := hb.inv_str
  simp at h; subst h; simp [Instr.sameNow, ba_beq]
 ·rw [ha.inv_bool, hb.inv_bool]; simp at h; subst h; simp [Instr.sameNow]
 ·cases h
theorem findA_ok {kind : TypeDesc} {k : AV} {ck : Value} (hk : Rv σ k ck) : ∀ {es : List (AV × AV × Nat)} {ms : List MapEntry} {i : Nat} {r : Option (Nat × AV × Nat)}, RE σ es ms → findA kind k es i = some r →
  (r = none → Instr.findNow kind ck ms i = some none) ∧
  (∀ j v b, r = some (j, v, b) → ∃ x e, i ≤ j ∧ es[j - i]? = some x ∧ ms[j - i]? = some e ∧ x.2.1 = v ∧ x.2.2 = b ∧ keyEq kind k x.1 = some true ∧ Instr.findNow kind ck ms i = some (some (j, e.val))) := by
 intro es
 induction es with
 | nil =>
  intro ms i r h hf
  have : ms = [] := List.eq_nil_of_length_eq_zero (by simpa using h.1.symm)
  subst this
  simp [findA] at hf; subst hf
  exact ⟨fun _ => rfl, fun j v b e => by cases e⟩
 | cons x es ih =>
  intro ms i r h hf
  obtain ⟨e, ms', rfl, ⟨h1, h2, h3⟩, h4⟩ := h.uncons
  obtain ⟨k', v', b'⟩ := x
  simp only [findA] at hf
  split at hf
  ·rename_i hq
   simp only [Option.some.injEq] at hf; subst hf
   refine ⟨fun e => (by cases e), fun j v b e' => ?_⟩
   simp only [Option.some.injEq, Prod.mk.injEq] at e'
   obtain ⟨rfl, rfl, rfl⟩ := e'
   exact ⟨(k', v', b'), e, Nat.le_refl _, by simp, by simp, rfl, rfl, hq, by simp [Instr.findNow, keyEq_ok hq hk h1]⟩
  ·rename_i hq
   obtain ⟨g1, g2⟩ := ih h4 hf
   refine ⟨fun e' => by simp [Instr.findNow, keyEq_ok hq hk h1, g1 e'], fun j v b e' => ?_⟩
   obtain ⟨x, f, k1, k2, k3, k4, k5, k6, k7⟩ := g2 j v b e'
   refine ⟨x, f, by omega, ?_, ?_, k4, k5, k6, by simp [Instr.findNow, keyEq_ok hq hk h1, k7]⟩
   ·rw [show j - i = (j - (i + 1)) + 1 from by omega]; simpa using k2
   ·rw [show j - i = (j - (i + 1)) + 1 from by omega]; simpa using k3
  ·cases hf
theorem run_findKey {kt : TypeId} {kind : TypeDesc} (hu : P.underlying kt = some kind) {ck : Value} {ms : List MapEntry} {r : Option (Nat × Value)} (h : Instr.findNow kind ck ms 0 = some r) :
  (Instr.findKey kt ck ms).run P w = .ok r w := by
 simp [Instr.findKey, run_und hu, h]
theorem run_checkKey {kt : TypeId} {kind : TypeDesc} (hu : P.underlying kt = some kind) {k : AV} {ck : Value} (h : plainKey kind k = true) (hk : Rv σ k ck) (e : Bool) (d : Nat) :
  (Instr.checkKey e (d + 1) kt ck).run P w = .ok () w := by
 unfold plainKey at h
 split at h
 ·rw [hk.inv_int]; simp [Instr.checkKey, run_und hu]
 ·obtain ⟨s, rfl, _⟩ := hk.inv_str; simp [Instr.checkKey, run_und hu]
 ·rw [hk.inv_bool]; simp [Instr.checkKey, run_und hu]
 ·cases h
theorem keyStays {kind : TypeDesc} {k x : AV} {ck cx : Value} (h : keyEq kind k x = some true) (hk : Rv σ k ck) (hx : Rv σ x cx) : (Instr.keyThatStays cx ck).run P w = .ok ck w := by
 have : Instr.sameBits 10000 cx ck = true := by
  unfold keyEq at h
  split at h
  ·rw [hk.inv_int, hx.inv_int]
   rcases cond_eq_some h with ⟨hb, h⟩ | ⟨_, h⟩
   ·simp only [Option.some.injEq, eqI_eq, beq_iff_eq] at h
    subst h; rw [eqK_iff hb]
    show Instr.sameBits (9999 + 1) _ _ = true
    simp [Instr.sameBits]
   ·cases h
  ·obtain ⟨s, rfl, rfl⟩ := hk.inv_str; obtain ⟨u, rfl, rfl⟩ := hx.inv_str
   simp only [Option.some.injEq] at h
   show Instr.sameBits (9999 + 1) _ _ = true
   rw [← ba_beq] at h
   have hsu : s = u := by
    have := h; rw [ba_beq, eqS_eq] at this; exact ofBA_inj (by simpa using this)
   subst hsu
   simp [Instr.sameBits, h]
  ·rw [hk.inv_bool, hx.inv_bool]
   simp only [Option.some.injEq, beq_iff_eq] at h
   subst h
   show Instr.sameBits (9999 + 1) _ _ = true
   simp [Instr.sameBits]
  ·cases h
 simp [Instr.keyThatStays, this]
theorem entriesA_ok (hr : Rel B G σ hp w) {m : AV} {cm : Value} {es : List (AV × AV × Nat)} (h : entriesA hp m = some es) (hm : Rv σ m cm) :
  (cm = .map none ∧ es = []) ∨ ∃ k a c, cm = .map (some k) ∧ w.heap[k]? = some (.map a c) ∧ RE σ es a.toList := by
 unfold entriesA at h
 split at h
 ·rw [hm.inv_nilm]; simp at h; subst h; exact .inl ⟨rfl, rfl⟩
 ·rename_i id
  split at h
  ·rename_i wr es' c hg
   simp only [Option.some.injEq] at h; subst h
   obtain ⟨b, z, hs, rfl⟩ := hm.inv_map
   obtain ⟨k, z', a, hs', hk, he, _⟩ := hr.map hg
   rw [hs] at hs'; simp at hs'; obtain ⟨rfl, rfl⟩ := hs'
   exact .inr ⟨_, a, c, rfl, hk, he⟩
  ·cases h
 ·cases h
theorem lookup_ok (hr : Rel B G σ hp w) {t : TypeId} {m k : AV} {cm ck : Value} {ok : Bool} {r : R} (h : doLookup P hp nx t m k ok = some r) (hm : Rv σ m cm) (hk : Rv σ k ck) : OkV P B G σ hp nx w (Instr.lookup t cm ck ok) r := by
 unfold doLookup at h
 split at h
 ·rename_i kt et hu
  split at h
  ·rename_i kind es z hkind hes hz
   rcases cond_eq_some h with ⟨hpk, h⟩ | ⟨_, h⟩
   ·obtain ⟨i, zv, hi, hz1, hz2⟩ := zeroA_spec hz
    have hzr : Rv σ z zv := ofVal_ok hz2
    have chk : ∀ e, (Instr.checkKey e 10000 kt ck).run P w = .ok () w := fun e => run_checkKey hkind hpk hk e 9999
    have fin : ∀ (v : AV) (cv : Value) (b : Bool), Rv σ v cv → Rv σ (bif ok then .tup [v, .bool b] else v) (if ok = true then .tuple #[cv, .bool b] else cv) := by
     intro v cv b hv
     cases ok
     ·exact hv
     ·exact .tup [v, .bool b] [cv, .bool b] rfl (RL.cons hv (.cons (.bool b) .nil)).2
    rcases entriesA_ok hr hes hm with ⟨rfl, rfl⟩ | ⟨kk, a, c, rfl, hh, he⟩
    ·simp only [findA] at h
     refine OkV.rv hr h ⟨_, ?_, fin z zv false hzr⟩
     have hfk : (Instr.findKey kt ck []).run P w = .ok none w := run_findKey hkind rfl
     simp only [Instr.lookup, Sem.run_bind, run_und hu, Result.andThen_ok, Sem.run_pure, chk, hfk, run_zero hi hz1]
    ·split at h
     ·rename_i j v b hf
      refine OkV.rv hr h ?_
      obtain ⟨x, e, h1, h2, h3, h4, h5, h6, h7⟩ := (findA_ok hk he hf).2 j v b rfl
      have hfk := run_findKey (P := P) (w := w) hkind h7
      have hv : Rv σ v e.val := h4 ▸ (he.2 _ _ _ h2 h3).2.1
      refine ⟨_, ?_, fin v e.val true hv⟩
      simp only [Instr.lookup, Sem.run_bind, run_und hu, Result.andThen_ok, Sem.run_pure, run_getMap hh, chk, hfk]
     ·rename_i hf
      refine OkV.rv hr h ⟨_, ?_, fin z zv false hzr⟩
      have hfk := run_findKey (P := P) (w := w) hkind ((findA_ok hk he hf).1 rfl)
      simp only [Instr.lookup, Sem.run_bind, run_und hu, Result.andThen_ok, Sem.run_pure, run_getMap hh, chk, hfk, run_zero hi hz1]
     ·cases h
   ·cases h
  ·cases h
 ·cases h
theorem setE_length : ∀ (n : Nat) (f : AV × AV × Nat → AV × AV × Nat) (es : List (AV × AV × Nat)), (setE n f es).length = es.length := by
 intro n
 induction n with
 | zero => intro f es; cases es <;> rfl
 | succ n ih => intro f es; cases es with
  | nil => rfl
  | cons e es => simp [setE, ih]
theorem setE_get : ∀ (n : Nat) (f : AV × AV × Nat → AV × AV × Nat) (es : List (AV × AV × Nat)) (i : Nat), (setE n f es)[i]? = if i = n then (es[i]?).map f else es[i]? := by
 intro n
 induction n with
 | zero => intro f es i; cases es with
  | nil => simp [setE]
  | cons e es => cases i <;> simp [setE]
 | succ n ih => intro f es i; cases es with
  | nil => simp [setE]
  | cons e es => cases i with
   | zero => simp [setE]
   | succ i => simp [setE, ih]
theorem delE_eq : ∀ (n : Nat) (es : List (AV × AV × Nat)), delE n es = es.eraseIdx n := by
 intro n
 induction n with
 | zero => intro es; cases es <;> rfl
 | succ n ih => intro es; cases es with
  | nil => rfl
  | cons e es => simp [delE, ih]
theorem RE.setE {es : List (AV × AV × Nat)} {a : Array MapEntry} (h : RE σ es a.toList) (n : Nat) (f : AV × AV × Nat → AV × AV × Nat) (g : MapEntry → MapEntry)
  (hfg : ∀ x e, es[n]? = some x → a[n]? = some e → Rv σ (f x).1 (g e).key ∧ Rv σ (f x).2.1 (g e).val ∧ (g e).born = (f x).2.2) : RE σ (Ex.setE n f es) (a.modify n g).toList := by
 refine ⟨by rw [setE_length]; simpa using h.1, fun i x e hx he => ?_⟩
 rw [setE_get] at hx
 rw [Array.getElem?_toList, Array.getElem?_modify] at he
 by_cases hi : i = n
 ·subst hi
  rw [if_pos rfl] at hx
  simp only [if_true, Option.map_eq_some_iff] at hx he
  obtain ⟨y, hy, rfl⟩ := hx
  obtain ⟨q, hq, rfl⟩ := he
  exact hfg y q hy hq
 ·rw [if_neg hi] at hx
  rw [if_neg (Ne.symm hi)] at he
  exact h.2 i x e hx (by simpa using he)
theorem RE.push {es : List (AV × AV × Nat)} {a : Array MapEntry} (h : RE σ es a.toList) {x : AV × AV × Nat} {e : MapEntry} (hx : Rv σ x.1 e.key ∧ Rv σ x.2.1 e.val ∧ e.born = x.2.2) : RE σ (es ++ [x]) (a.push e).toList := by
 have hl := h.1
 refine ⟨by simp [hl], fun i y f hy hf => ?_⟩
 rw [Array.toList_push] at hf
 by_cases hi : i < es.length
 ·rw [List.getElem?_append_left hi] at hy
  rw [List.getElem?_append_left (by omega)] at hf
  exact h.2 i y f hy hf
 ·rw [List.getElem?_append_right (by omega)] at hy
  rw [List.getElem?_append_right (by omega)] at hf
  rw [hl] at hy
  cases hq : i - a.toList.length with
  | zero => rw [hq] at hy hf; simp at hy hf; subst hy; subst hf; exact hx
  | succ m => rw [hq] at hy; simp at hy
theorem RE.erase {es : List (AV × AV × Nat)} {a : Array MapEntry} (h : RE σ es a.toList) (n : Nat) : RE σ (es.eraseIdx n) (a.eraseIdxIfInBounds n).toList := by
 have ht : (a.eraseIdxIfInBounds n).toList = a.toList.eraseIdx n := by simp [Array.toList_eraseIdxIfInBounds]
 rw [ht]
 have hl := h.1
 refine ⟨by simp only [List.length_eraseIdx, hl], fun i x e hx he => ?_⟩
 rw [List.getElem?_eraseIdx] at hx he
 split at hx
 ·rename_i hi; rw [if_pos hi] at he; exact h.2 i x e hx he
 ·rename_i hi; rw [if_neg hi] at he; exact h.2 (i + 1) x e hx he
theorem map_turn (hr : Rel B G σ hp w) {id k z : Nat} {es es' : List (AV × AV × Nat)} {a a' : Array MapEntry} {c c' : Nat} (hg : hp.get id = some (.map true es c)) (hs : σ id = some (k, z)) (hh : w.heap[k]? = some (.map a c)) (he : RE σ es' a'.toList) :
  Rel B G σ (hp.set id (some (.map true es' c'))) { w with heap := w.heap.setIfInBounds k (.map a' c') } ∧ Ext σ σ hp (hp.set id (some (.map true es' c'))) nx nx w { w with heap := w.heap.setIfInBounds k (.map a' c') } := by
 have hlt : k < w.heap.size := (Array.getElem?_eq_some_iff.1 hh).1
 refine hr.set (w' := { w with heap := w.heap.setIfInBounds k (.map a' c') }) hg rfl hs (o' := .map a' c') (by simp [hlt]) (.map true es' a' c' (by simpa using he.1) fun i x e hx hee => he.2 i x e hx (by simpa using hee)) rfl (by simp) (fun j hj => by simp [Array.getElem?_setIfInBounds_ne (Ne.symm hj)]) rfl rfl rfl nx
theorem mapSet_ok (hr : Rel B G σ hp w) {t : TypeId} {m k v : AV} {cm ck cv : Value} {r : R} (h : doMapSet P hp nx t m k v = some r) (hm : Rv σ m cm) (hk : Rv σ k ck) (hv : Rv σ v cv) : OkU P B G σ hp nx w (Instr.mapUpdate t cm ck cv) r := by
 unfold doMapSet at h
 split at h
 ·rename_i kt et id hu
  split at h
  ·rename_i kind es c hkind hg
   rcases cond_eq_some h with ⟨hpk, h⟩ | ⟨_, h⟩
   ·have chk : ∀ e, (Instr.checkKey e 10000 kt ck).run P w = .ok () w := fun e => run_checkKey hkind hpk hk e 9999
    obtain ⟨b, z, hs, rfl⟩ := hm.inv_map
    obtain ⟨kk, z', a, hs', hh, he, _⟩ := hr.map hg
    rw [hs] at hs'; simp at hs'; obtain ⟨rfl, rfl⟩ := hs'
    split at h
    ·rename_i j v' b' hf
     simp only [rset, Option.some.injEq] at h; subst h
     obtain ⟨x, e, h1, h2, h3, h4, h5, h6, h7⟩ := (findA_ok hk he hf).2 j v' b' rfl
     simp only [Nat.sub_zero] at h2 h3
     have hfk := run_findKey (P := P) (w := w) hkind h7
     have hks := keyStays (P := P) (w := w) h6 hk (he.2 _ _ _ h2 h3).1
     have hj : a[j]? = some e := by simpa using h3
     obtain ⟨g1, g2⟩ := map_turn (nx := nx) (c' := c) (a' := a.modify j fun e => { e with key := ck, val := cv }) (es' := setE j (fun e => (k, v, e.2.2)) es) hr hg hs hh
      (he.setE j (fun e => (k, v, e.2.2)) (fun e => { e with key := ck, val := cv }) fun x e hx hee => ⟨hk, hv, (he.2 _ x e hx (by simpa using hee)).2.2⟩)
     refine ⟨σ, _, ?_, rfl, g1, g2⟩
     simp only [Instr.mapUpdate, Sem.run_bind, run_und hu, Result.andThen_ok, run_getMap hh, chk, hfk, hj, Option.map_some, Option.getD_some, hks, run_setMap hh]
    ·rename_i hf
     simp only [rset, Option.some.injEq] at h; subst h
     have hfk := run_findKey (P := P) (w := w) hkind ((findA_ok hk he hf).1 rfl)
     obtain ⟨g1, g2⟩ := map_turn (nx := nx) (c' := c + 1) (a' := a.push { key := ck, val := cv, born := c }) (es' := es ++ [(k, v, c)]) hr hg hs hh (he.push ⟨hk, hv, rfl⟩)
     refine ⟨σ, _, ?_, rfl, g1, g2⟩
     simp only [Instr.mapUpdate, Sem.run_bind, run_und hu, Result.andThen_ok, run_getMap hh, chk, hfk, run_setMap hh]
    ·cases h
   ·cases h
  ·cases h
 ·cases h
theorem mapEntry_ok (hr : Rel B G σ hp w) {t : TypeId} {m k : AV} {cm ck : Value} {r : R} (h : doMapEntry P hp nx t m k = some r) (hm : Rv σ m cm) (hk : Rv σ k ck) : OkV P B G σ hp nx w (Instr.mapEntry t cm ck) r := by
 unfold doMapEntry at h
 split at h
 ·rename_i kt et id hu
  split at h
  ·rename_i kind es c z hkind hg hz
   rcases cond_eq_some h with ⟨hpk, h⟩ | ⟨_, h⟩
   ·have chk : ∀ e, (Instr.checkKey e 10000 kt ck).run P w = .ok () w := fun e => run_checkKey hkind hpk hk e 9999
    obtain ⟨i, zv, hi, hz1, hz2⟩ := zeroA_spec hz
    have hzr : Rv σ z zv := ofVal_ok hz2
    obtain ⟨b, z', hs, rfl⟩ := hm.inv_map
    obtain ⟨kk, z'', a, hs', hh, he, _⟩ := hr.map hg
    rw [hs] at hs'; simp at hs'; obtain ⟨rfl, rfl⟩ := hs'
    split at h
    ·rename_i j v' b' hf
     simp only [rset, Option.some.injEq] at h; subst h
     obtain ⟨x, e, h1, h2, h3, h4, h5, h6, h7⟩ := (findA_ok hk he hf).2 j v' b' rfl
     simp only [Nat.sub_zero] at h2 h3
     have hfk := run_findKey (P := P) (w := w) hkind h7
     have hks := keyStays (P := P) (w := w) h6 hk (he.2 _ _ _ h2 h3).1
     have hj : a[j]? = some e := by simpa using h3
     obtain ⟨q1, q2, q3⟩ := he.2 _ _ _ h2 h3
     obtain ⟨g1, g2⟩ := map_turn (nx := nx) (c' := c) (a' := a.modify j fun e => { e with key := ck }) (es' := setE j (fun e => (k, e.2)) es) hr hg hs hh
      (he.setE j (fun e => (k, e.2)) (fun e => { e with key := ck }) fun x e hx hee => ⟨hk, (he.2 _ x e hx (by simpa using hee)).2.1, (he.2 _ x e hx (by simpa using hee)).2.2⟩)
     refine ⟨σ, _, .tuple #[e.val, goInt e.born], ?_, ?_, g1, g2⟩
     ·simp only [Instr.mapEntry, Sem.run_bind, run_und hu, Result.andThen_ok, run_getMap hh, chk, hfk, hj, Option.map_some, Option.getD_some, hks, run_setMap hh, Sem.run_pure]
     ·rw [← h4, ← h5, ← q3]
      exact .tup _ [e.val, goInt e.born] rfl (RL.cons q2 (.cons (.int _ _) .nil)).2
    ·rename_i hf
     simp only [rset, Option.some.injEq] at h; subst h
     have hfk := run_findKey (P := P) (w := w) hkind ((findA_ok hk he hf).1 rfl)
     obtain ⟨g1, g2⟩ := map_turn (nx := nx) (c' := c + 1) (a' := a.push { key := ck, val := zv, born := c }) (es' := es ++ [(k, z, c)]) hr hg hs hh (he.push ⟨hk, hzr, rfl⟩)
     refine ⟨σ, _, .tuple #[zv, goInt c], ?_, .tup _ [zv, goInt c] rfl (RL.cons hzr (.cons (.int _ _) .nil)).2, g1, g2⟩
     simp only [Instr.mapEntry, Sem.run_bind, run_und hu, Result.andThen_ok, run_getMap hh, chk, hfk, run_zero hi hz1, run_setMap hh, Sem.run_pure]
    ·cases h
   ·cases h
  ·cases h
 ·cases h
theorem bornE_ok (b : Nat) : ∀ {es : List (AV × AV × Nat)} {ms : List MapEntry} {i j : Nat}, RE σ es ms → bornE b es i = some j → i ≤ j ∧ ms.findIdx? (fun e => (e.born : Int) == Int.ofNat b) = some (j - i) := by
 intro es
 induction es with
 | nil => intro ms i j _ h; simp [bornE] at h
 | cons x es ih =>
  intro ms i j h hb
  obtain ⟨e, ms', rfl, ⟨_, _, h3⟩, h4⟩ := h.uncons
  simp only [bornE] at hb
  rcases cond_eq_some hb with ⟨hq, hb⟩ | ⟨hq, hb⟩
  ·simp only [Option.some.injEq] at hb; subst hb
   have := beq_iff.1 hq
   refine ⟨Nat.le_refl _, ?_⟩
   rw [List.findIdx?_cons]; simp [h3, this]
  ·have hne := beq_iff_f.1 hq
   obtain ⟨g1, g2⟩ := ih h4 hb
   refine ⟨by omega, ?_⟩
   rw [List.findIdx?_cons]
   have : ((e.born : Int) == Int.ofNat b) = false := by rw [h3]; simpa using fun e => hne (by omega)
   rw [this, g2]; simp; omega
theorem entryStore_ok (hr : Rel B G σ hp w) {t : TypeId} {m s v : AV} {cm cs cv : Value} {r : R} (h : doEntryStore hp nx m s v = some r) (hm : Rv σ m cm) (hs' : Rv σ s cs) (hv : Rv σ v cv) : OkU P B G σ hp nx w (Instr.entryStore t cm cs cv) r := by
 unfold doEntryStore at h
 split at h
 ·rename_i id k b
  split at h
  ·rename_i es c hg
   split at h
   ·rename_i i hi
    simp only [rset, Option.some.injEq] at h; subst h
    rw [hs'.inv_int]
    obtain ⟨bb, z, hs, rfl⟩ := hm.inv_map
    obtain ⟨kk, z', a, hs2, hh, he, _⟩ := hr.map hg
    rw [hs] at hs2; simp at hs2; obtain ⟨rfl, rfl⟩ := hs2
    obtain ⟨_, g⟩ := bornE_ok b he hi
    rw [Nat.sub_zero] at g
    have gf : a.findIdx? (fun e => (e.born : Int) == Int.ofNat b) = some i := by
     rw [show a = a.toList.toArray from by simp, List.findIdx?_toArray]; exact g
    obtain ⟨g1, g2⟩ := map_turn (nx := nx) (c' := c) (a' := a.modify i fun e => { e with val := cv }) (es' := setE i (fun e => (e.1, v, e.2.2)) es) hr hg hs hh
      (he.setE i (fun e => (e.1, v, e.2.2)) (fun e => { e with val := cv }) fun x e hx hee => ⟨(he.2 _ x e hx (by simpa using hee)).1, hv, (he.2 _ x e hx (by simpa using hee)).2.2⟩)
    refine ⟨σ, _, ?_, rfl, g1, g2⟩
    simp only [Instr.entryStore, Sem.run_bind, run_getMap hh, Result.andThen_ok, asInt, asIntOf, Sem.run_pure, gf, run_setMap hh]
   ·cases h
  ·cases h
 ·cases h
theorem delete_ok (hr : Rel B G σ hp w) {t u ty : TypeId} {m k : AV} {cm ck : Value} {r : R} (h : doDelete P hp nx t m k = some r) (hm : Rv σ m cm) (hk : Rv σ k ck) : OkV P B G σ hp nx w (Builtin.delete_ #[t, u] ty #[cm, ck]) r := by
 unfold doDelete at h
 split at h
 ·rename_i kt et id hu
  split at h
  ·rename_i kind es c hkind hg
   rcases cond_eq_some h with ⟨hpk, h⟩ | ⟨_, h⟩
   ·have chk : ∀ e, (Instr.checkKey e 10000 kt ck).run P w = .ok () w := fun e => run_checkKey hkind hpk hk e 9999
    obtain ⟨b, z, hs, rfl⟩ := hm.inv_map
    obtain ⟨kk, z', a, hs', hh, he, _⟩ := hr.map hg
    rw [hs] at hs'; simp at hs'; obtain ⟨rfl, rfl⟩ := hs'
    have hun : Rv σ unit (.tuple #[]) := .tup [] [] rfl (by simp)
    split at h
    ·rename_i j v' b' hf
     simp only [rset, Option.some.injEq] at h; subst h
     obtain ⟨x, e, h1, h2, h3, h4, h5, h6, h7⟩ := (findA_ok hk he hf).2 j v' b' rfl
     have hfk := run_findKey (P := P) (w := w) hkind h7
     obtain ⟨g1, g2⟩ := map_turn (nx := nx) (c' := c) (a' := a.eraseIdxIfInBounds j) (es' := delE j es) hr hg hs hh (by rw [delE_eq]; exact he.erase j)
     refine ⟨σ, _, .tuple #[], ?_, hun, g1, g2⟩
     simp [Builtin.delete_, run_und hu, run_getMap hh, chk, hfk, run_setMap hh]
    ·rename_i hf
     simp only [rset, Option.some.injEq] at h; subst h
     have hfk := run_findKey (P := P) (w := w) hkind ((findA_ok hk he hf).1 rfl)
     obtain ⟨g1, g2⟩ := map_turn (nx := nx) (c' := c) (a' := a) (es' := es) hr hg hs hh he
     refine ⟨σ, _, .tuple #[], ?_, hun, g1, g2⟩
     simp [Builtin.delete_, run_und hu, run_getMap hh, chk, hfk, run_setMap hh]
    ·cases h
   ·cases h
  ·cases h
 ·cases h
end
end Go.Ex
set_option linter.unusedVariables false
set_option linter.unusedSimpArgs false
namespace Go.Ex

section
variable {P : Program} {B G : Nat} {σ : Sg} {hp : Tr Blk} {nx : Nat} {w : World}

theorem run_loadCells0 (a : Addr) : (loadCells a 0).run P w = .ok #[] w := by simp [loadCells, loadCellsFrom]
theorem lenA_ok {x : AV} {n : Nat} {v : Value} (h : lenA x = some n) (hx : Rv σ x v) : (Builtin.lenOf v).run P w = .ok n w := by
 unfold lenA at h
 split at h
 ·rw [hx.inv_nils]; simp only [Option.some.injEq] at h; subst h; rfl
 ·obtain ⟨a, c, rfl⟩ := hx.inv_sle; simp only [Option.some.injEq] at h; subst h; rfl
 ·obtain ⟨b, z, c, _, rfl⟩ := hx.inv_sl; simp only [Option.some.injEq] at h; subst h; rfl
 ·obtain ⟨s, rfl, rfl⟩ := hx.inv_str; simp only [Option.some.injEq] at h; subst h; rw [ofBA_length]; rfl
 ·cases h
theorem strCells (s : ByteArray) (n : Nat) : RL σ (((ofBA s).take n).map fun b => .int .u8 (.ofNat b)) ((s.extract 0 n).data.map fun b => Value.int .u8 b.toNat).toList ∧ ∀ u, u ∈ ((s.extract 0 n).data.map fun b => Value.int .u8 b.toNat).toList → oneC u = true := by
 have e : ((s.extract 0 n).data.map fun b => Value.int .u8 b.toNat).toList = (s.data.toList.take n).map fun b => Value.int .u8 b.toNat := by
  simp [List.extract_eq_take_drop]
 rw [e]
 refine ⟨⟨by simp [ofBA], fun i x v hx hv => ?_⟩, fun u hu => ?_⟩
 ·simp only [ofBA, ← List.map_take, List.map_map, List.getElem?_map, Option.map_eq_some_iff] at hx hv
  obtain ⟨b, hb, rfl⟩ := hx
  obtain ⟨b', hb', rfl⟩ := hv
  rw [hb] at hb'; cases hb'
  exact .int _ _
 ·simp only [List.mem_map] at hu
  obtain ⟨b, _, rfl⟩ := hu; rfl
theorem firstA_ok (hr : Rel B G σ hp w) {es n : Nat} {x : AV} {l : List AV} {v : Value} (h : firstA hp es n x = some l) (hx : Rv σ x v) :
  ∃ cs : Array Value, RL σ l cs.toList ∧ (∀ u, u ∈ cs.toList → oneC u = true) ∧ ∀ m, (Builtin.firstCells es n v).run P { w with drawn := m } = .ok cs { w with drawn := m } := by
 unfold firstA at h
 split at h
 ·rw [hx.inv_nils]; simp only [Option.some.injEq] at h; subst h
  exact ⟨#[], .nil, by simp, fun m => rfl⟩
 ·rcases cond_eq_some h with ⟨hb, h⟩ | ⟨_, h⟩
  ·obtain ⟨a, c, rfl⟩ := hx.inv_sle; simp only [Option.some.injEq] at h; subst h
   refine ⟨#[], .nil, by simp, fun m => ?_⟩
   rw [beq_iff.1 hb]
   simp only [Builtin.firstCells, Nat.zero_mul]
   exact run_loadCells0 a
  ·cases h
 ·rename_i id off _ _ _
  split at h
  ·rename_i wr o tt cl hg
   obtain ⟨b, z, c, hs, rfl⟩ := hx.inv_sl
   obtain ⟨k, z', cc, t, fr, hs', hk, hz, ho, hl, hf, hc, hB⟩ := hr.cells hg
   rw [hs] at hs'; simp at hs'; obtain ⟨rfl, rfl⟩ := hs'
   obtain ⟨g1, g2, g3⟩ := hc.sub h hl
   refine ⟨((cc.toList.drop off).take (n * es)).toArray, by simpa using g1, by simpa using g2, fun m => ?_⟩
   simp only [Builtin.firstCells]
   exact run_loadCells (w := { w with drawn := m }) hk g3
  ·cases h
 ·rcases cond_eq_some h with ⟨hb, h⟩ | ⟨_, h⟩
  ·obtain ⟨s, rfl, rfl⟩ := hx.inv_str; simp only [Option.some.injEq] at h; subst h
   obtain ⟨g1, g2⟩ := strCells (σ := σ) s n
   exact ⟨_, g1, g2, fun m => rfl⟩
  ·cases h
 ·cases h
theorem firstA_len {es n : Nat} {x : AV} {l : List AV} (h : firstA hp es n x = some l) : l.length ≤ n * es := by
 unfold firstA at h
 split at h
 ·simp only [Option.some.injEq] at h; subst h; simp
 ·rcases cond_eq_some h with ⟨_, h⟩ | ⟨_, h⟩
  ·simp only [Option.some.injEq] at h; subst h; simp
  ·cases h
 ·split at h
  ·rw [(sub_spec h).1]; omega
  ·cases h
 ·rcases cond_eq_some h with ⟨hb, h⟩ | ⟨_, h⟩
  ·rw [beq_iff.1 hb]; simp only [Option.some.injEq] at h; subst h; simp; omega
  ·cases h
 ·cases h
theorem bytesB_spec {t : TypeId} {b : Nat} (h : bytesB P t = some b) : ∃ i, P.info? t = some i ∧ i.bytes = b := by
 unfold bytesB at h
 split at h
 ·rename_i i hi; exact ⟨i, hi, by simpa using h⟩
 ·cases h
theorem sizeB_spec {t : TypeId} {b : Nat} (h : sizeB P t = some b) : ∃ i, P.info? t = some i ∧ i.size = b := by
 unfold sizeB at h
 split at h
 ·rename_i i hi; exact ⟨i, hi, by simpa using h⟩
 ·cases h
theorem sameT_l {t : Option TypeId} {e a : TypeId} (h : sameT t e = some a) : t = some a := by
 unfold sameT at h
 split at h
 ·rcases cond_eq_some h with ⟨_, h'⟩ | ⟨_, h'⟩
  ·exact h'
  ·cases h'
 ·cases h
theorem sameT_r {t : Option TypeId} {e a : TypeId} (h : sameT t e = some a) : e = a := by
 unfold sameT at h
 split at h
 ·rcases cond_eq_some h with ⟨hq, h'⟩ | ⟨_, h'⟩
  ·rw [← beq_iff.1 hq]; simpa using h'
  ·cases h'
 ·cases h
theorem noInt (d : TypeDesc) : (∀ k, d ≠ .int k) → (match d with | TypeDesc.int _ => true | _ => false) = false := by
 intro hd
 split
 ·exact absurd rfl (hd _)
 ·rfl
theorem run_append_room {sT xT ty e : TypeId} {d : TypeDesc} {es n sLen sCap : Nat} {base : Option Addr} {v : Value} {news : Array Value} (hsT : P.underlying sT = some (.slice e)) (hxT : P.underlying xT = some d) (hd : ∀ k, d ≠ .int k)
  (hes : sizeB P e = some es) (hlen : (Builtin.lenOf v).run P w = .ok n w) (hle : sLen + n ≤ sCap) (hf : (Builtin.firstCells es n v).run P w = .ok news w) :
  (Builtin.append_ #[sT, xT] ty #[.slice base sLen sCap, v]).run P w = (match base with
   | some a => ((storeCells (a.add (sLen * es)) news.toList).run P w).andThen fun _ w' => .ok (.slice base (sLen + n) sCap) w'
   | none => .ok (.slice base (sLen + n) sCap) w) := by
 have hd := noInt d hd
 cases base with
 | none => simp [Builtin.append_, run_und hsT, run_und hxT, run_size hes, hd, hlen, hle, hf]
 | some a => simp [Builtin.append_, run_und hsT, run_und hxT, run_size hes, hd, hlen, hle, hf]
theorem run_append_new {sT xT ty e : TypeId} {d : TypeDesc} {es n sLen sCap : Nat} {base : Option Addr} {v zv : Value} {olds news : Array Value} {i : TypeInfo} (hsT : P.underlying sT = some (.slice e)) (hxT : P.underlying xT = some d) (hd : ∀ k, d ≠ .int k)
  (hi : P.info? e = some i) (hes : i.size = es) (hz : i.zero = some zv) (hlen : (Builtin.lenOf v).run P w = .ok n w) (hgt : sCap < sLen + n) (hb : i.bytes ≤ 65536) (hn : sLen + n ≤ 1048576)
  (ho : ∀ m, (Builtin.firstCells es sLen (.slice base sLen sCap)).run P { w with drawn := m } = .ok olds { w with drawn := m })
  (hf : ∀ m, (Builtin.firstCells es n v).run P { w with drawn := m } = .ok news { w with drawn := m }) :
  ∃ c, sLen + n ≤ c ∧ CapOk c ∧ (Builtin.append_ #[sT, xT] ty #[.slice base sLen sCap, v]).run P w =
   .ok (.slice (some ⟨w.heap.size, 0, none⟩) (sLen + n) c) { w with drawn := w.drawn + 1, heap := w.heap.push (.cells (olds ++ news ++ Builtin.zeroCells zv.cells (c - (sLen + n))) e) } := by
 refine ⟨(Question.appendCap (sLen + n) sCap e).cut (w.tape w.drawn (.appendCap (sLen + n) sCap e)), by simp [Question.cut], ?_, ?_⟩
 ·have hlt := Nat.mod_lt (w.tape w.drawn (.appendCap (sLen + n) sCap e)) (show 0 < 2 ^ 63 - (sLen + n) by omega)
  simp only [CapOk, Question.cut]
  omega
 have h1 : ¬ (sLen + n ≤ sCap) := by omega
 have h2 : ¬ (9223372036854775807 < ((sLen : Int) + (n : Int))) := by omega
 have h3 : ¬ (281474976710656 < Builtin.nextslicecap (sLen + n) sCap * i.bytes) := by
  have := growslice_fits (need := sLen + n) (old := sCap) (bytes := i.bytes) hgt (Nat.le_trans (Nat.mul_le_mul hn hb) (by decide))
  omega
 subst hes
 have hd := noInt d hd
 have ho' : (Builtin.firstCells i.size sLen (.slice base sLen sCap)).run P w.drew = .ok olds w.drew := ho _
 have hf' : (Builtin.firstCells i.size n v).run P w.drew = .ok news w.drew := hf _
 simp [Builtin.append_, run_und hsT, run_und hxT, run_info hi, sizeOf, zeroValue, hz, hd, hlen, h1, h2, h3, hf', ho', Question.forced, newRow]
 rfl
theorem grown_ok {tt : Option TypeId} (hr : Rel B G σ hp w) (hB : B ≤ w.heap.size) (hf : σ nx = none) {s : Sem Value} {len n es c : Nat} {olds news : Array Value} {z : AV} {zv : Value} {e : TypeId} {lo ln : List AV} (hc : len + n ≤ c) (hcm : CapOk c) (hes : z.cells.length = es) (h0 : es ≠ 0)
  (htt : ∀ a, tt = some a → e = a)
  (hrun : s.run P w = .ok (.slice (some ⟨w.heap.size, 0, none⟩) (len + n) c) { w with drawn := w.drawn + 1, heap := w.heap.push (.cells (olds ++ news ++ Builtin.zeroCells zv.cells (c - (len + n))) e) })
  (hz : ofVal zv = some z) (ho : RL σ lo olds.toList) (ho1 : ∀ u, u ∈ olds.toList → oneC u = true) (hlo : lo.length = len * es) (hn : RL σ ln news.toList) (hn1 : ∀ u, u ∈ news.toList → oneC u = true) (hln : ln.length = n * es) :
  OkV P B G σ hp nx w s ⟨.sl nx 0 (len + n) none es, [(nx, some (.cells true true tt (lo ++ ln)))], nx + 1⟩ := by
 obtain ⟨g1, g2⟩ := ofVal_cells (σ := σ) hz
 have hzs : zv.cells.size = es := by rw [← hes]; simpa using g1.1.symm
 obtain ⟨k1, k2⟩ := zeros_ok g1 g2 (by omega) (c - (len + n)) ((c - (len + n)) * zv.cells.size) (by rw [hes, hzs])
 have e1 : olds.size = len * es := by rw [← hlo]; simpa using ho.1.symm
 have e2 : news.size = n * es := by rw [← hln]; simpa using hn.1.symm
 have hsz : (olds ++ news ++ Builtin.zeroCells zv.cells (c - (len + n))).size = c * es := by
  simp only [Array.size_append, e1, e2, Builtin.zeroCells, Array.size_map, Array.size_range, hzs]
  rw [← Nat.add_mul, ← Nat.add_mul]; congr 1; omega
 have hall : RL σ (lo ++ ln) (olds ++ news).toList := by rw [Array.toList_append]; exact ho.append hn
 refine OkV.newCells hr hB hf (c := olds ++ news ++ Builtin.zeroCells zv.cells (c - (len + n))) (t := e) (fr := (0, 0)) htt hrun rfl rfl rfl rfl ⟨?_, ?_⟩ (fun h => by cases h) ?_ (fun _ _ h => Nat.not_lt_zero _ h.2) ?_
 ·intro i x hx
  obtain ⟨v, hv, hxv⟩ := hall.get hx
  refine ⟨v, ?_, hxv⟩
  rw [Array.getElem?_append_left]
  ·rw [← Array.getElem?_toList]; exact hv
  ·have := (List.getElem?_eq_some_iff.1 hv).1; simpa using this
 ·intro i v hv
  have hm := Array.mem_of_getElem? hv
  simp only [Array.mem_append] at hm
  rcases hm with (hm | hm) | hm
  ·exact ho1 v (by simpa using hm)
  ·exact hn1 v (by simpa using hm)
  ·exact k2 v (by simpa [Builtin.zeroCells] using hm)
 ·rw [hsz, List.length_append, hlo, hln, ← Nat.add_mul]; exact Nat.mul_le_mul_right _ hc
 ·rw [hsz]
  exact .slo _ _ _ c _ _ _ (Sg.put_same _ _ _) (by omega) hcm
theorem appendTo_ok (hr : Rel B G σ hp w) (hB : B ≤ w.heap.size) {sT xT ty e : TypeId} {d : TypeDesc} {s : AV} {vs vx zv : Value} {z : AV} {es n m : Nat} {new : List AV} {news : Array Value} {i : TypeInfo} {r : R} (hf : Fresh σ nx r.nx) (h : appendTo e hp nx es n new s = some r) (hs : Rv σ s vs)
  (hsT : P.underlying sT = some (.slice e)) (hxT : P.underlying xT = some d) (hd : ∀ k, d ≠ .int k) (hes : sizeB P e = some es) (hi : P.info? e = some i) (hisz : i.size = es) (hz1 : i.zero = some zv) (hz2 : ofVal zv = some z) (hzl : z.cells.length = es) (hs0 : es ≠ 0)
  (hlen : (Builtin.lenOf vx).run P w = .ok n w) (hm : lenA s = some m) (hbig : m + n ≤ 1048576) (hib : i.bytes ≤ 65536) (hln : new.length = n * es) (n1 : RL σ new news.toList) (n2 : ∀ u, u ∈ news.toList → oneC u = true)
  (n3 : ∀ m, (Builtin.firstCells es n vx).run P { w with drawn := m } = .ok news { w with drawn := m }) :
  OkV P B G σ hp nx w (Builtin.append_ #[sT, xT] ty #[vs, vx]) r := by
 have hfn : Fresh σ nx (nx + 1) → σ nx = none := fun hf => hf nx (Nat.le_refl _) (Nat.lt_succ_self _)
 cases s with
 | nils =>
  rw [hs.inv_nils]
  simp only [appendTo] at h
  rcases cond_eq_some h with ⟨hq, h'⟩ | ⟨hq, h'⟩ <;> clear h
  ·refine .rv hr h' ⟨.slice none 0 0, ?_, .nils⟩
   rw [run_append_room hsT hxT hd hes hlen (by rw [beq_iff.1 hq]; omega) (n3 w.drawn)]
   rw [beq_iff.1 hq]
  ·have hn0 := beq_iff_f.1 hq
   simp only [rnew, Option.some.injEq] at h'; subst h'
   obtain ⟨c, hc, hcm, hrun⟩ := run_append_new (P := P) (w := w) (ty := ty) (base := none) (sLen := 0) (sCap := 0) (olds := #[]) hsT hxT hd hi hisz hz1 hlen (by omega) hib (by omega) (fun m => rfl) n3
   have := grown_ok (tt := some e) hr hB (hfn hf) (lo := []) (ln := new) (len := 0) hc hcm hzl hs0 (fun a h => by cases h; rfl) hrun hz2 .nil (by simp) (by simp) n1 n2 hln
   simpa using this
 | sl id off len cap es' =>
  simp only [lenA, Option.some.injEq] at hm; subst hm
  simp only [appendTo] at h
  rcases cond_eq_some h with ⟨he, h'⟩ | ⟨_, h'⟩
  ·clear h
   have he := beq_iff.1 he; subst he
   split at h'
   ·rename_i wr o tt l hg
    cases cap with
    | some c =>
     obtain ⟨b, z', hσ, rfl⟩ := hs.inv_slc
     simp only at h'
     rcases cond_eq_some h' with ⟨hle, h⟩ | ⟨hle, h⟩ <;> clear h'
     ·have hle := ble_iff.1 hle
      have hrun := run_append_room (ty := ty) (base := some ⟨b, off, none⟩) (sLen := len) (sCap := c) hsT hxT hd hes hlen hle (n3 w.drawn)
      simp only [addr_add] at hrun
      rcases cond_eq_some h with ⟨hq, h'⟩ | ⟨_, h'⟩ <;> clear h
      ·have hn0 := beq_iff.1 hq; subst hn0
       refine .rv hr h' ⟨.slice (some ⟨b, off, none⟩) len c, ?_, .slc _ _ _ _ _ _ _ hσ⟩
       have hnil : news.toList = [] := List.eq_nil_of_length_eq_zero (by rw [← n1.1, hln]; omega)
       rw [hrun, hnil]; simp [storeCells]
      ·rcases cond_eq_some h' with ⟨hw, h⟩ | ⟨_, h⟩ <;> clear h'
       ·have hp1 : putB hp nx (.sl id off (len + n) (some c) es) id (off + len * es) new = some r := by
         subst hw; simp only [putB, hg]; exact h
        obtain ⟨w', r1, r2, r3, r4⟩ := put_ok (P := P) hr hp1 hσ n1 n2
        refine ⟨σ, w', .slice (some ⟨b, off, none⟩) (len + n) c, ?_, by rw [r2]; exact .slc _ _ _ _ _ _ _ hσ, r3, r4⟩
        rw [hrun, r1]; rfl
       ·cases h
     ·have hgt := ble_iff_f.1 hle
      split at h
      ·rename_i old hold
       simp only [rnew, Option.some.injEq] at h; subst h
       have hfo : firstA hp es len (.sl id off len (some c) es) = some old := by simp only [firstA, hg]; exact hold
       obtain ⟨olds, o1, o2, o3⟩ := firstA_ok (P := P) hr hfo (.slc _ _ _ _ _ _ _ hσ)
       obtain ⟨c', hc', hcm, hrun⟩ := run_append_new (P := P) (w := w) (ty := ty) (base := some ⟨b, off, none⟩) (sLen := len) (sCap := c) (olds := olds) hsT hxT hd hi hisz hz1 hlen hgt hib (by omega) o3 n3
       exact grown_ok (tt := some e) hr hB (hfn hf) hc' hcm hzl hs0 (fun a h => by cases h; rfl) hrun hz2 o1 o2 (sub_spec hold).1 n1 n2 hln
      ·cases h
    | none =>
     obtain ⟨b, z', c, hσ, hcz, hcm, rfl⟩ := hs.inv_slo
     obtain ⟨k, z2, cc, t, fr, hσ2, hk, hzz, ho, hll, hfz, hcc, hBk⟩ := hr.cells hg
     rw [hσ] at hσ2; simp at hσ2; obtain ⟨rfl, rfl⟩ := hσ2
     have hrun := fun hle => run_append_room (P := P) (w := w) (ty := ty) (base := some ⟨b, off, none⟩) (sLen := len) (sCap := c) hsT hxT hd hes hlen hle (n3 w.drawn)
     simp only [addr_add] at hrun
     simp only at h'
     rcases cond_eq_some h' with ⟨hq, h⟩ | ⟨_, h⟩ <;> clear h'
     ·have hroom := ble_iff.1 hq
      have hle : len + n ≤ c := Nat.le_of_mul_le_mul_right (show (len + n) * es ≤ c * es by omega) (by omega)
      replace hrun := hrun hle
      rcases cond_eq_some h with ⟨hq, h'⟩ | ⟨_, h'⟩ <;> clear h
      ·have hn0 := beq_iff.1 hq; subst hn0
       refine .rv hr h' ⟨.slice (some ⟨b, off, none⟩) len c, ?_, .slo _ _ _ _ _ _ _ hσ hcz hcm⟩
       have hnil : news.toList = [] := List.eq_nil_of_length_eq_zero (by rw [← n1.1, hln]; omega)
       rw [hrun, hnil]; simp [storeCells]
      ·rcases cond_eq_some h' with ⟨hw, h⟩ | ⟨_, h⟩ <;> clear h'
       ·have hp1 : putB hp nx (.sl id off (len + n) none es) id (off + len * es) new = some r := by
         subst hw; simp only [putB, hg]; exact h
        obtain ⟨w', r1, r2, r3, r4⟩ := put_ok (P := P) hr hp1 hσ n1 n2
        refine ⟨σ, w', .slice (some ⟨b, off, none⟩) (len + n) c, ?_, by rw [r2]; exact .slo _ _ _ _ _ _ _ hσ hcz hcm, r3, r4⟩
        rw [hrun, r1]; rfl
       ·cases h
     ·rcases cond_eq_some h with ⟨hq, h'⟩ | ⟨_, h'⟩ <;> clear h
      ·simp only [Bool.and_eq_true] at hq
       have ho0 := beq_iff.1 hq.1.1.1; subst ho0
       have hwr := hq.1.1.2; subst hwr
       have hll2 := beq_iff.1 hq.2
       simp only [Option.some.injEq] at h'; subst h'
       have hσn := hfn hf
       by_cases hle : len + n ≤ c
       ·replace hrun := hrun hle
        have hmul : (len + n) * es ≤ c * es := Nat.mul_le_mul_right _ hle
        rw [Nat.add_mul] at hmul
        have hnl : news.toList.length = n * es := by rw [← n1.1, hln]
        obtain ⟨w', c', r1, r2, r3, r4, r5, r6, r7, r8, r9⟩ := run_storeCells (P := P) news.toList w cc (0 + len * es) 0 hk (.inr (by rw [hnl]; omega)) (fun j hj => hfz j (.inl hj)) n2
        have hsub : Sub σ (σ.put nx (b, z')) := Sub.put _ hσn
        obtain ⟨g1, g2⟩ := hr.rename (b' := .cells true true (sameT tt e) (l ++ new)) hg rfl hσ hσn r2 (by
         refine .cells true true (sameT tt e) (l ++ new) c' t fr (fun a ha => hr.cellsT hg hσ hk a (sameT_l ha)) (by omega) (fun e => by cases e) ?_ (by rw [r3]; exact fun i hi => hfz i (.inl (hi.resolve_right (by simp)))) ?_ ?_
         ·rw [List.length_append, hln, r3]; omega
         ·intro i u hu
          rw [r4 i] at hu
          split at hu
          ·exact n2 u (List.mem_of_getElem? hu)
          ·exact hcc.2 i u hu
         ·intro i x hx
          rw [r4 i]
          by_cases hi : i < l.length
          ·rw [List.getElem?_append_left hi] at hx
           rw [if_neg (by omega)]
           obtain ⟨u, hu, hxu⟩ := hcc.1 i x hx
           exact ⟨u, hu, hxu.mono hsub⟩
          ·rw [List.getElem?_append_right (by omega)] at hx
           obtain ⟨u, hu, hxu⟩ := n1.get hx
           have := (List.getElem?_eq_some_iff.1 hu).1
           rw [if_pos (by omega)]
           refine ⟨u, ?_, hxu.mono hsub⟩
           rw [show i - (0 + len * es + 0) = i - l.length from by omega]; exact hu) r6 r5 r7 r8 r9
        refine ⟨_, w', .slice (some ⟨b, 0, none⟩) (len + n) c, ?_, .slo _ _ _ _ _ _ _ (Sg.put_same _ _ _) hcz hcm, g1, g2⟩
        rw [hrun, r1]; rfl
       ·obtain ⟨d1, d2⟩ := hr.drop id nx
        have hfo : firstA hp es len (.sl id 0 len none es) = some l := by
         simp only [firstA, hg]
         have : l.length = len * es := hll2.symm
         have key : ∀ (m : List AV), takeL m.length m = some m := by
          intro m; induction m with
          | nil => rfl
          | cons x m ih => simp [takeL_z, takeL_n, takeL_c, ih]
         simp only [sub, dropL_z, dropL_n, dropL_c, hll2]; exact key l
        obtain ⟨olds, o1, o2, o3⟩ := firstA_ok (P := P) hr hfo (.slo _ _ _ c _ _ _ hσ hcz hcm)
        obtain ⟨c', hc', hcm', hrun2⟩ := run_append_new (P := P) (w := w) (ty := ty) (base := some ⟨b, 0, none⟩) (sLen := len) (sCap := c) (olds := olds) hsT hxT hd hi hisz hz1 hlen (by omega) hib (by omega) o3 n3
        obtain ⟨σ', w', v, q1, q2, q3, q4⟩ := grown_ok (tt := sameT tt e) d1 hB hσn hc' hcm' hzl hs0 (fun a h => sameT_r h) hrun2 hz2 o1 o2 hll2.symm n1 n2 hln
        exact ⟨σ', w', v, q1, q2, q3, d2.trans q4⟩
      ·cases h'
   ·cases h'
  ·cases h'
 | _ => simp [appendTo] at h
theorem append_ok (hr : Rel B G σ hp w) (hB : B ≤ w.heap.size) {sT xT ty : TypeId} {s x : AV} {vs vx : Value} {r : R} (hf : Fresh σ nx r.nx) (h : doAppend P hp nx sT xT s x = some r) (hs : Rv σ s vs) (hx : Rv σ x vx) :
  OkV P B G σ hp nx w (Builtin.append_ #[sT, xT] ty #[vs, vx]) r := by
 unfold doAppend at h
 split at h
 ·rename_i e d hsT hxT
  split at h
  ·cases h
  ·rename_i es bytes z n m hd hes hby hz hn hm
   rcases cond_eq_some h with ⟨_, h⟩ | ⟨hb, h⟩
   ·cases h
   ·simp only [Bool.or_eq_false_iff, Bool.not_eq_false'] at hb
    have hs0 := beq_iff_f.1 hb.1.1.1
    have hzl := beq_iff.1 hb.1.1.2
    have hbyt := blt_iff_f.1 hb.1.2
    have hbig := blt_iff_f.1 hb.2
    obtain ⟨i, zv, hi, hz1, hz2⟩ := zeroA_spec hz
    have hib : i.bytes = bytes := by obtain ⟨i', h1, h2⟩ := bytesB_spec hby; rw [hi] at h1; cases h1; exact h2
    have hisz : i.size = es := by obtain ⟨i', h1, h2⟩ := sizeB_spec hes; rw [hi] at h1; cases h1; exact h2
    split at h
    ·rename_i new hnew
     rcases cond_eq_some h with ⟨hl, h⟩ | ⟨_, h⟩
     ·obtain ⟨news, n1, n2, n3⟩ := firstA_ok (P := P) hr hnew hx
      exact appendTo_ok hr hB hf h hs hsT hxT hd hes hi hisz hz1 hz2 hzl hs0 (lenA_ok hn hx) hm hbig (by omega) (beq_iff.1 hl) n1 n2 n3
     ·cases h
    ·cases h
  ·cases h
 ·cases h
theorem copy_ok (hr : Rel B G σ hp w) {dT u ty : TypeId} {d s : AV} {vd vs : Value} {r : R} (h : doCopy P hp nx dT d s = some r) (hd : Rv σ d vd) (hs : Rv σ s vs) :
  OkV P B G σ hp nx w (Builtin.copy_ #[dT, u] ty #[vd, vs]) r := by
 unfold doCopy at h
 split at h
 ·rename_i e hu
  split at h
  ·rename_i es n len hes hn hlen
   have hln := lenA_ok (P := P) (w := w) hn hs
   have hm : (bif Nat.ble n len then n else len) = Nat.min n len := by
    cases hb : Nat.ble n len
    ·have := ble_iff_f.1 hb; simp only [cond_false]; exact (Nat.min_eq_right (by omega)).symm
    ·have := ble_iff.1 hb; simp only [cond_true]; exact (Nat.min_eq_left (by omega)).symm
   simp only [hm] at h
   split at h
   ·rename_i new hnew
    obtain ⟨cs, c1, c2, c3⟩ := firstA_ok (P := P) hr hnew hs
    replace c3 := c3 w.drawn
    have c3 : (Builtin.firstCells es (Nat.min n len) vs).run P w = .ok cs w := c3
    split at h
    ·refine .rv hr h ⟨_, ?_, .int _ 0⟩
     simp only [lenA, Option.some.injEq] at hlen; subst hlen
     rw [hd.inv_nils]
     simp only [Builtin.copy_, Sem.run_bind, run_und hu, Result.andThen_ok, hln, run_size hes, List.getElem?_toArray]
     simp only [Nat.min_zero] at c3
     simp [run_und hu, hln, run_size hes, c3, goInt]
    ·refine .rv hr h ⟨_, ?_, .int _ 0⟩
     simp only [lenA, Option.some.injEq] at hlen; subst hlen
     obtain ⟨a, c, rfl⟩ := hd.inv_sle
     have hnil : cs.toList = [] := List.eq_nil_of_length_eq_zero (by have := firstA_len hnew; rw [← c1.1]; simp only [Nat.min_zero] at this; omega)
     simp only [Nat.min_zero] at c3
     simp [Builtin.copy_, run_und hu, hln, run_size hes, c3, goInt, hnil, storeCells]
    ·rename_i id off _ _ _ _
     simp only [lenA, Option.some.injEq] at hlen; subst hlen
     obtain ⟨b, z, c, hσ, rfl⟩ := hd.inv_sl
     obtain ⟨w', r1, r2, r3, r4⟩ := put_ok (P := P) hr h hσ c1 c2
     refine ⟨σ, w', .int .i64 (.ofNat (Nat.min n _)), ?_, by rw [r2]; exact .int _ _, r3, r4⟩
     simp [Builtin.copy_, run_und hu, hln, run_size hes, c3, goInt, r1]
    ·cases h
   ·cases h
  ·cases h
 ·cases h
theorem clear_ok (hr : Rel B G σ hp w) {t ty : TypeId} {x : AV} {vx : Value} {r : R} (h : doClear P hp nx t x = some r) (hx : Rv σ x vx) :
  OkV P B G σ hp nx w (Builtin.clear_ #[t] ty #[vx]) r := by
 unfold doClear at h
 split at h
 ·rename_i e hu
  split at h
  ·refine .rv hr h ⟨.tuple #[], ?_, .tup [] [] rfl (by simp)⟩
   rw [hx.inv_nils]
   simp [Builtin.clear_, run_und hu]
  ·rename_i id off n _ _
   split at h
   ·rename_i z hz
    obtain ⟨b, zz, c, hσ, rfl⟩ := hx.inv_sl
    rcases cond_eq_some h with ⟨hq, h'⟩ | ⟨hq, h'⟩
    ·refine .rv hr h' ⟨.tuple #[], ?_, .tup [] [] rfl (by simp)⟩
     rw [beq_iff.1 hq]
     simp [Builtin.clear_, run_und hu]
    ·have hn0 := beq_iff_f.1 hq
     obtain ⟨i, zv, hi, hz1, hz2⟩ := zeroA_spec hz
     obtain ⟨g1, g2⟩ := ofVal_cells (σ := σ) hz2
     have hsz : z.cells.length = zv.cells.size := by simpa using g1.1
     have hk : RL σ (repl n z.cells) (Builtin.zeroCells zv.cells n).toList ∧ ∀ u, u ∈ (Builtin.zeroCells zv.cells n).toList → oneC u = true := by
      by_cases h0 : z.cells.length = 0
      ·have e1 : repl n z.cells = [] := List.eq_nil_of_length_eq_zero (by rw [repl_length, h0]; simp)
       have e2 : (Builtin.zeroCells zv.cells n).toList = [] := by
        refine List.eq_nil_of_length_eq_zero ?_
        simp [Builtin.zeroCells, ← hsz, h0]
       rw [e1, e2]; exact ⟨.nil, by simp⟩
      ·exact zeros_ok g1 g2 h0 n (n * zv.cells.size) (by rw [hsz])
     obtain ⟨w', r1, r2, r3, r4⟩ := put_ok (P := P) hr h' hσ hk.1 hk.2
     refine ⟨σ, w', .tuple #[], ?_, by rw [r2]; exact .tup [] [] rfl (by simp), r3, r4⟩
     obtain ⟨m, rfl⟩ : ∃ m, n = m + 1 := ⟨n - 1, by omega⟩
     simp [Builtin.clear_, run_und hu, run_zero hi hz1, r1]
   ·cases h
  ·cases h
 ·cases h
end
end Go.Ex
