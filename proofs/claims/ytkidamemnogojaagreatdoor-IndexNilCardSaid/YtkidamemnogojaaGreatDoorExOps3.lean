/-
  The abstract machine: slices of slices, building, new blocks, stores.
-/
import Derived.Test.YtkidamemnogojaaGreatDoorExOps2
set_option linter.unusedVariables false
set_option linter.unusedSimpArgs false
namespace Go.Ex

section
variable {P : Program} {B G : Nat} {σ : Sg} {hp : Tr Blk} {nx : Nat} {w : World}

theorem bounds_ok {s : Bool} {len cap m h l : Nat} {lo hi mx : Option AV} {clo chi cmx : Option Value} (hm : boundO mx cap cap = some m) (hh : boundH hi mx m len = some h)
    (hl : boundO lo h 0 = some l) (rlo : RO σ lo clo) (rhi : RO σ hi chi) (rmx : RO σ mx cmx) : (Instr.sliceBounds s len cap clo chi cmx).run P w = .ok (l, h, m) w ∧ l ≤ h ∧ m ≤ cap := by
  have g1 := fun code => boundO_spec (P := P) (w := w) hm rmx (fun _ => Nat.le_refl _) code
  have g3 := fun code => boundO_spec (P := P) (w := w) hl rlo (fun _ => Nat.zero_le _) code
  refine ⟨?_, (g3 .sliceB).2, (g1 .slice3Acap).2⟩
  unfold Instr.sliceBounds
  cases mx with
  | none =>
    cases cmx with
    | some u => exact rmx.elim
    | none =>
      simp only [boundO, Option.some.injEq] at hm; subst hm
      cases hi with
      | none =>
        cases chi with
        | some u => exact rhi.elim
        | none =>
          simp only [boundH, Option.some.injEq] at hh; subst hh
          cases clo with
          | none => have := (g3 .sliceB).1; simp at this ⊢; exact this
          | some u => have := (g3 .sliceB).1; simp at this ⊢; simp [this]
      | some a =>
        cases chi with
        | none => exact rhi.elim
        | some u =>
          have k := fun code => (bound_spec (P := P) (w := w) (by simpa [boundH] using hh) rhi code).1
          cases clo with
          | none => have := (g3 .sliceB).1; simp at this ⊢; simp [k, this]
          | some u => have := (g3 .sliceB).1; simp at this ⊢; simp [k, this]
  | some a =>
    cases cmx with
    | none => exact rmx.elim
    | some u =>
      have k1 := fun code => (bound_spec (P := P) (w := w) (by simpa [boundO] using hm) rmx code).1
      cases hi with
      | none => simp [boundH] at hh
      | some a' =>
        cases chi with
        | none => exact rhi.elim
        | some u' =>
          have k := fun code => (bound_spec (P := P) (w := w) (by simpa [boundH] using hh) rhi code).1
          cases clo with
          | none => have := (g3 .slice3C).1; simp at this ⊢; simp [k, k1, this]
          | some u => have := (g3 .slice3C).1; simp at this ⊢; simp [k, k1, this]

theorem sliceCap_spec {id off len cap es : Nat} {lo hi mx : Option AV} {x : AV} (h : sliceCap id off len cap es lo hi mx = some x) :
    ∃ m hh l, boundO mx cap cap = some m ∧ boundH hi mx m len = some hh ∧ boundO lo hh 0 = some l ∧ x = .sl id (if m = l then off else off + l * es) (hh - l) (some (m - l)) es := by
  unfold sliceCap at h
  split at h
  · rename_i m hm
    split at h
    · rename_i hh hhe
      split at h
      · rename_i l hl
        simp only [Option.some.injEq] at h; subst h
        refine ⟨m, hh, l, hm, hhe, hl, ?_⟩
        by_cases e : m = l
        · rw [beq_t e]; simp [e]
        · rw [beq_f e]; simp [e]
      · cases h
    · cases h
  · cases h

theorem slice_ok (hr : Rel B G σ hp w) {t : TypeId} {x : AV} {lo hi mx : Option AV} {vx : Value} {clo chi cmx : Option Value} {r : R} (h : doSlice P hp nx t x lo hi mx = some r) (hx : Rv σ x vx) (rlo : RO σ lo clo) (rhi : RO σ hi chi) (rmx : RO σ mx cmx) :
    OkV P B G σ hp nx w (Instr.sliceAt t vx clo chi cmx) r := by
  unfold doSlice at h
  split at h
  · rename_i n el hu
    split at h
    · rename_i id off s hsz
      refine OkV.rvO hr h fun y hy => ?_
      obtain ⟨m, hh, l, h1, h2, h3, rfl⟩ := sliceCap_spec hy
      obtain ⟨g, _, _⟩ := bounds_ok (P := P) (w := w) (s := false) h1 h2 h3 rlo rhi rmx
      obtain ⟨b, z, hs, rfl⟩ := hx.inv_ptr
      refine ⟨.slice (some ⟨b, if m = l then off else off + l * (s + 1), none⟩) (hh - l) (m - l), ?_, .slc _ _ _ _ _ _ _ hs⟩
      simp only [Instr.sliceAt, Sem.run_bind, run_und hu, Result.andThen_ok, Instr.sureAddr, Sem.run_pure, g, run_size hsz, addr_add]
      split <;> rfl
    · cases h
  · rename_i hu
    split at h
    · rename_i s
      refine OkV.rvO hr h fun y hy => ?_
      obtain ⟨u, rfl, rfl⟩ := hx.inv_str
      cases cmx with
      | some c => exact rmx.elim
      | none => exact sliceStr_ok hu hy rlo rhi
    · cases h
  · rename_i el hu
    split at h
    · rename_i s hsz
      split at h
      · rename_i hi' lo' h2 h3
        refine OkV.rv hr h ?_
        cases cmx with
        | some c => exact rmx.elim
        | none =>
          rw [hx.inv_nils]
          obtain ⟨g, g1, g2⟩ := bounds_ok (P := P) (w := w) (s := true) (len := 0) (cap := 0) (m := 0) (mx := none) (cmx := none) (by rfl) (by cases hi <;> simpa [boundH, boundO] using h2) (by
            have : hi' = 0 := by
              have := (boundO_spec (P := P) (w := w) h2 rhi (fun _ => Nat.le_refl _) .sliceB).2; omega
            subst this; exact h3) rlo rhi rmx
          have e1 : hi' = 0 := by
              have := (boundO_spec (P := P) (w := w) h2 rhi (fun _ => Nat.le_refl _) .sliceB).2; omega
          subst e1
          have e2 : lo' = 0 := by omega
          subst e2
          refine ⟨.slice none 0 0, ?_, .nils⟩
          simp only [Instr.sliceAt, Instr.slice, Sem.run_bind, run_und hu, Result.andThen_ok, g, run_size hsz, Sem.run_pure]
          rfl
      · cases h
    · rename_i s hsz
      split at h
      · rename_i hi' lo' h2 h3
        refine OkV.rv hr h ?_
        cases cmx with
        | some c => exact rmx.elim
        | none =>
          obtain ⟨a, c, rfl⟩ := hx.inv_sle
          have e1 : hi' = 0 := by
              have := (boundO_spec (P := P) (w := w) h2 rhi (fun _ => Nat.le_refl _) .sliceB).2; omega
          subst e1
          have e2 : lo' = 0 := by
              have := (boundO_spec (P := P) (w := w) h3 rlo (fun _ => Nat.le_refl _) .sliceB).2; omega
          subst e2
          have hh2 : boundH hi none c 0 = some 0 := by
            cases hi with
            | none => rfl
            | some v =>
              simp only [boundO] at h2
              simp only [boundH]
              unfold bound at h2 ⊢
              split at h2
              · rcases cond_eq_some h2 with ⟨_, e⟩ | ⟨_, e⟩
                · simp only [Option.some.injEq] at e; subst e; rw [ble_iff.2 (Nat.zero_le _)]; rfl
                · cases e
              · cases h2
          obtain ⟨g, g1, g2⟩ := bounds_ok (P := P) (w := w) (s := true) (len := 0) (cap := c) (m := c) (mx := none) (cmx := none) (by rfl) hh2 h3 rlo rhi rmx
          simp only [Instr.sliceAt, Instr.slice, Runs, Sem.run_bind, run_und hu, Result.andThen_ok, g, run_size hsz, Sem.run_pure]
          refine ⟨_, rfl, ?_⟩
          split
          · exact .sle _ _
          · exact .sle _ _
      · cases h
    · rename_i s id off len cap es hsz
      rcases cond_eq_some h with ⟨hb, h⟩ | ⟨_, h⟩
      · refine OkV.rvO hr h fun y hy => ?_
        have e := beq_iff.1 hb; subst e
        obtain ⟨m, hh, l, h1, h2, h3, rfl⟩ := sliceCap_spec hy
        obtain ⟨g, _, _⟩ := bounds_ok (P := P) (w := w) (s := true) h1 h2 h3 rlo rhi rmx
        obtain ⟨b, z, hs, rfl⟩ := hx.inv_slc
        refine ⟨.slice (some ⟨b, if m = l then off else off + l * s, none⟩) (hh - l) (m - l), ?_, .slc _ _ _ _ _ _ _ hs⟩
        simp only [Instr.sliceAt, Instr.slice, Sem.run_bind, run_und hu, Result.andThen_ok, Sem.run_pure, g, run_size hsz, Option.map_some, addr_add]
        split <;> rfl
      · cases h
    · rename_i s id off len es hsz
      rcases cond_eq_some h with ⟨hb, h⟩ | ⟨_, h⟩
      · simp only [Bool.and_eq_true] at hb
        have e := beq_iff.1 hb.1; subst e
        have hpos := blt_iff.1 hb.2
        split at h
        · rename_i wr o cs hg _
          refine OkV.rvO hr h fun y hy => ?_
          obtain ⟨b, z, c, hs, hz, rfl⟩ := hx.inv_slo
          obtain ⟨k, z', cc, tt, fr, hs', hk, hcz, ho, hl, hf, hc, _⟩ := hr.cells hg
          rw [hs] at hs'; simp at hs'; obtain ⟨rfl, rfl⟩ := hs'
          have hknown : (cs.length - off) / s ≤ c := by
            have : cs.length - off ≤ c * s := by omega
            calc (cs.length - off) / s ≤ c * s / s := Nat.div_le_div_right this
              _ = c := Nat.mul_div_cancel _ hpos
          cases cmx with
          | some c => exact rmx.elim
          | none =>
            unfold sliceOpn at hy
            split at hy
            · rename_i hh hhe
              split at hy
              · rename_i l hle
                have hh2 : boundH hi none c len = some hh := by
                  cases hi with
                  | none => simpa [boundO, boundH] using hhe
                  | some v =>
                    simp only [boundO] at hhe
                    simp only [boundH]
                    unfold bound at hhe ⊢
                    split at hhe
                    · rcases cond_eq_some hhe with ⟨hb', e⟩ | ⟨_, e⟩
                      · simp only [Option.some.injEq] at e; subst e
                        have := ble_iff.1 hb'
                        rw [ble_iff.2 (Nat.le_trans this hknown)]; rfl
                      · cases e
                    · cases hhe
                obtain ⟨g, g1, g2⟩ := bounds_ok (P := P) (w := w) (s := true) (len := len) (cap := c) (m := c) (mx := none) (cmx := none) (by rfl) hh2 hle rlo rhi rmx
                have hrun : (Instr.sliceAt t (.slice (some ⟨b, off, none⟩) len c) clo chi none).run P w = .ok (.slice (some ⟨b, if c = l then off else off + l * s, none⟩) (hh - l) (c - l)) w := by
                  simp only [Instr.sliceAt, Instr.slice, Sem.run_bind, run_und hu, Result.andThen_ok, Sem.run_pure, g, run_size hsz, Option.map_some, addr_add]
                  split <;> rfl
                refine ⟨_, hrun, ?_⟩
                rcases cond_eq_some hy with ⟨hb', e⟩ | ⟨hb', e⟩
                · simp only [Option.some.injEq] at e; subst e
                  have := beq_iff.1 hb'; subst this
                  have : (if c = 0 then off else off + 0 * s) = off := by split <;> simp
                  rw [this]
                  exact .slo _ _ _ _ _ _ _ hs hz
                · rcases cond_eq_some e with ⟨hb'', e⟩ | ⟨hb'', e⟩
                  · simp only [Option.some.injEq] at e; subst e
                    have hlt := blt_iff.1 hb''
                    have hne : ¬ c = l := by omega
                    rw [if_neg hne]
                    refine .slo _ _ _ _ _ _ _ hs ?_
                    have : l ≤ c := by omega
                    rw [Nat.sub_mul]
                    have : l * s ≤ c * s := Nat.mul_le_mul_right _ this
                    omega
                  · rcases cond_eq_some e with ⟨hb3, e⟩ | ⟨_, e⟩
                    · simp only [Option.some.injEq] at e; subst e
                      have := beq_iff.1 hb3; subst this
                      rw [Nat.sub_self]
                      exact .sle _ _
                    · cases e
              · cases hy
            · cases hy
        · cases h
      · cases h
    · cases h
  · cases h

/-! ### Building -/
theorem RL.toArray {σ : Sg} {l : List AV} {c : Array Value} : RL σ l c.toList ↔ (l.length = c.size ∧ ∀ (i : Nat) x v, l[i]? = some x → c[i]? = some v → Rv σ x v) := by
  unfold RL; simp

/-- What 'fill' does with one part. -/
theorem fold_set : ∀ (vs : List Value) (cs : Array Value) (off k : Nat) (i : Nat),
    ((vs.zipIdx k).foldl (fun cs (p : Value × Nat) => cs.setIfInBounds (off + p.2) p.1) cs)[i]? = if off + k ≤ i ∧ i < off + k + vs.length ∧ i < cs.size then vs[i - (off + k)]? else cs[i]? := by
  intro vs
  induction vs with
  | nil => intro cs off k i; simp; intro h1 h2; omega
  | cons v vs ih =>
    intro cs off k i
    simp only [List.zipIdx_cons, List.foldl_cons, ih, Array.size_setIfInBounds, List.length_cons]
    by_cases e : i = off + k
    · subst e
      rw [if_neg (by omega)]
      by_cases hs : off + k < cs.size
      · rw [if_pos (by omega)]; simp [hs]
      · rw [if_neg (by omega)]; simp [hs]
    · by_cases h1 : off + (k + 1) ≤ i ∧ i < off + (k + 1) + vs.length ∧ i < cs.size
      · rw [if_pos h1, if_pos (by omega), show i - (off + k) = (i - (off + (k + 1))) + 1 from by omega]; simp
      · rw [if_neg h1, if_neg (by omega), Array.getElem?_setIfInBounds_ne (by omega)]
theorem fold_set_size : ∀ (l : List (Value × Nat)) (cs : Array Value) (off : Nat), (l.foldl (fun cs (p : Value × Nat) => cs.setIfInBounds (off + p.2) p.1) cs).size = cs.size := by
  intro l
  induction l with
  | nil => intro cs off; rfl
  | cons p l ih => intro cs off; simp [ih]

/-- Parts, one by one. -/
def RPs (σ : Sg) : List (Nat × AV) → List (Nat × Value) → Prop
  | [], [] => True
  | (i, a) :: l, (j, v) :: m => i = j ∧ Rv σ a v ∧ RPs σ l m
  | _, _ => False

theorem fill_ok {place : Nat → Option (Nat × Nat)} : ∀ {ps : List (Nat × AV)} {vs : List (Nat × Value)} {l r : List AV} {c : Array Value}, fillA place ps l = some r → RPs σ ps vs → RL σ l c.toList → (∀ u, u ∈ c.toList → oneC u = true) →
    ∃ c', Instr.fill place c vs = some c' ∧ RL σ r c'.toList ∧ (∀ u, u ∈ c'.toList → oneC u = true) := by
  intro ps
  induction ps with
  | nil =>
    intro vs l r c h hp hl h1
    cases vs with
    | nil => simp [fillA] at h; subst h; exact ⟨c, rfl, hl, h1⟩
    | cons v vs => exact hp.elim
  | cons p ps ih =>
    intro vs l r c h hp hl h1
    obtain ⟨i, a⟩ := p
    cases vs with
    | nil => exact hp.elim
    | cons q vs =>
      obtain ⟨j, v⟩ := q
      obtain ⟨rfl, hv, hp'⟩ := hp
      simp only [fillA] at h
      split at h
      · rename_i off size cs hpl hck
        rcases cond_eq_some h with ⟨hb, h⟩ | ⟨_, h⟩
        · simp only [Bool.and_eq_true] at hb
          have hsz := beq_iff.1 hb.1
          have hin := ble_iff.1 hb.2
          split at h
          · rename_i l' hl'
            obtain ⟨us, hus, hu1, hcells⟩ := hv.cells hck
            obtain ⟨g1, g2, g3⟩ := putL_spec _ _ _ _ hl'
            have hlen : us.length = size := by rw [← hus.1]; exact hsz
            have hcs : v.cells.size = size := by rw [hcells]; simpa using hlen
            have hbound : size = 0 ∨ off + size ≤ c.size := by
              rcases g2 with g2 | g2
              · left; rw [← hsz, g2]; rfl
              · right; have := hl.1; simp at this; omega
            let c' := (us.zipIdx 0).foldl (fun cs (p : Value × Nat) => cs.setIfInBounds (off + p.2) p.1) c
            have hc'sz : c'.size = c.size := fold_set_size _ _ _
            have hc'get : ∀ k : Nat, c'[k]? = if off ≤ k ∧ k < off + us.length ∧ k < c.size then us[k - off]? else c[k]? := fun k => by
              have := fold_set us c off 0 k
              simpa using this
            have hRL : RL σ l' c'.toList := by
              rw [RL.toArray]
              refine ⟨by rw [g1, hc'sz]; simpa using hl.1, fun k x u hx hu => ?_⟩
              rw [g3 k] at hx
              rw [hc'get k] at hu
              have hk : k < c.size := by
                rcases Nat.lt_or_ge k c.size with e | e
                · exact e
                · rw [if_neg (by omega)] at hu; simp [e] at hu
              by_cases hin : off ≤ k ∧ k < off + us.length
              · rw [if_pos (by have := hus.1; omega)] at hx
                rw [if_pos (by omega)] at hu
                exact hus.2 _ _ _ hx hu
              · rw [if_neg (by have := hus.1; omega)] at hx
                rw [if_neg (by omega)] at hu
                exact hl.2 k x u hx (by simpa using hu)
            have hone : ∀ u, u ∈ c'.toList → oneC u = true := by
              intro u hu
              obtain ⟨k, hk⟩ := List.mem_iff_getElem?.1 hu
              rw [Array.getElem?_toList, hc'get k] at hk
              split at hk
              · exact hu1 u (List.mem_of_getElem? hk)
              · exact h1 u (List.mem_of_getElem? (by simpa using hk))
            obtain ⟨c'', e1, e2, e3⟩ := ih h hp' hRL hone
            refine ⟨c'', ?_, e2, e3⟩
            simp only [Instr.fill, hpl]
            rw [if_neg (by
              simp only [Bool.or_eq_true, bne_iff_ne, ne_eq, decide_eq_true_eq, not_or, Decidable.not_not]
              refine ⟨hcs, ?_⟩
              rw [hcs]; have := hl.1; simp at this; omega)]
            rw [← e1]
            congr 1
            show _ = c'
            rw [hcells]
            simp [c']
          · cases h
        · cases h
      · cases h
end
end Go.Ex
