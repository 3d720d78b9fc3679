/-
  The abstract machine: places, parts, slices of slices, new blocks, stores.
-/
import Derived.Test.YtkidamemnogojaaGreatDoorExOps1
set_option linter.unusedVariables false
set_option linter.unusedSimpArgs false
namespace Go.Ex

section
variable {P : Program} {B G : Nat} {σ : Sg} {hp : Tr Blk} {nx : Nat} {w : World}

/-- An operation that gives a value goes through, and what is there then stands for the abstract heap behind it. -/
def OkV (P : Program) (B G : Nat) (σ : Sg) (hp : Tr Blk) (nx : Nat) (w : World) (s : Sem Value) (r : R) : Prop :=
  ∃ τ w' v, s.run P w = .ok v w' ∧ Rv τ r.v v ∧ Rel B G τ (app r.dl hp) w' ∧ Ext σ τ hp (app r.dl hp) nx r.nx w w'
def OkU (P : Program) (B G : Nat) (σ : Sg) (hp : Tr Blk) (nx : Nat) (w : World) (s : Sem Unit) (r : R) : Prop :=
  ∃ τ w', s.run P w = .ok () w' ∧ r.v = unit ∧ Rel B G τ (app r.dl hp) w' ∧ Ext σ τ hp (app r.dl hp) nx r.nx w w'

theorem OkV.pure (hr : Rel B G σ hp w) {s : Sem Value} {x : AV} (h : Runs P σ w s x) : OkV P B G σ hp nx w s ⟨x, [], nx⟩ :=
  let ⟨v, hv, hx⟩ := h; ⟨σ, w, v, hv, hx, hr, .refl σ hp nx w⟩
theorem rv_some {v : AV} {r : R} (h : rv nx v = some r) : r = ⟨v, [], nx⟩ := by simpa [rv, eq_comm] using h
theorem rvO_some {v : Option AV} {r : R} (h : rvO nx v = some r) : ∃ x, v = some x ∧ r = ⟨x, [], nx⟩ := by
  cases v with
  | none => simp [rvO] at h
  | some x => exact ⟨x, rfl, by simpa [rvO, eq_comm] using h⟩
theorem OkV.rv (hr : Rel B G σ hp w) {s : Sem Value} {x : AV} {r : R} (hx : Ex.rv nx x = some r) (h : Runs P σ w s x) : OkV P B G σ hp nx w s r := by
  rw [rv_some hx]; exact .pure hr h
theorem OkV.rvO (hr : Rel B G σ hp w) {s : Sem Value} {x : Option AV} {r : R} (hx : Ex.rvO nx x = some r) (h : ∀ y, x = some y → Runs P σ w s y) : OkV P B G σ hp nx w s r := by
  obtain ⟨y, hy, rfl⟩ := rvO_some hx; exact .pure hr (h y hy)

/-- A block of cells, found. -/
theorem Rel.cells (hr : Rel B G σ hp w) {id : Nat} {wr o : Bool} {tt : Option TypeId} {l : List AV} (h : hp.get id = some (.cells wr o tt l)) :
    ∃ k z c t fr, σ id = some (k, z) ∧ w.heap[k]? = some (.cells c t fr) ∧ c.size = z ∧ (o = false → l.length = c.size) ∧ l.length ≤ c.size ∧ (∀ i : Nat, (i < c.size ∨ o = false) → ¬ (fr.1 ≤ i ∧ i < fr.2)) ∧ RC σ l c ∧ (wr = true → B ≤ k) := by
  obtain ⟨k, z, ob, hs, hk, hro, hB⟩ := hr.blk id _ h
  cases hro with
  | cells _ _ _ _ c t fr _ hz ho hl hf h1 h => exact ⟨k, z, c, t, fr, hs, hk, hz, ho, hl, hf, ⟨h, h1⟩, hB⟩

theorem Rel.cellsT (hr : Rel B G σ hp w) {id : Nat} {wr o : Bool} {tt : Option TypeId} {l : List AV} (h : hp.get id = some (.cells wr o tt l)) {k z : Nat} (hs : σ id = some (k, z)) {c : Array Value} {t : TypeId} {fr : Nat × Nat} (hk : w.heap[k]? = some (.cells c t fr)) :
    ∀ a, tt = some a → t = a := by
  obtain ⟨k', z', ob, hs', hk', hro, hB⟩ := hr.blk id _ h
  rw [hs] at hs'; simp at hs'; obtain ⟨rfl, rfl⟩ := hs'
  rw [hk] at hk'
  simp only [Option.some.injEq] at hk'; subst hk'
  cases hro with
  | cells _ _ _ _ _ _ _ htt => exact htt
theorem load_ok (hr : Rel B G σ hp w) {t : TypeId} {a x : AV} {va : Value} (h : loadA P hp t a = some x) (ha : Rv σ a va) : Runs P σ w (Instr.loadAt t va) x := by
  unfold loadA at h
  split at h
  · rename_i id off
    split at h
    · rename_i wr o l hg
      obtain ⟨b, z, hs, rfl⟩ := ha.inv_ptr
      obtain ⟨k, z', c, tt, fr, hs', hk, hz, ho, hl, hf, hc, _⟩ := hr.cells hg
      rw [hs] at hs'; simp at hs'; obtain ⟨rfl, rfl⟩ := hs'
      obtain ⟨v, hv, hx⟩ := run_loadVar (P := P) hk hc hl h
      exact ⟨v, by simpa [Instr.loadAt, Instr.sureAddr] using hv, hx⟩
    · cases h
  · cases h

theorem fieldF_spec {s : TypeId} {f : Nat} {fd : Field} (h : fieldF P s f = some fd) : ∃ fs, P.underlying s = some (.struct fs) ∧ fs[f]? = some fd := by
  unfold fieldF at h
  split at h
  · rename_i fs hu; exact ⟨fs, hu, by simpa using h⟩
  · cases h

theorem fieldAddr_ok (hr : Rel B G σ hp w) {s : TypeId} {x : AV} {f : Nat} {vx : Value} {r : R} (h : doFieldAddr P nx s x f = some r) (hx : Rv σ x vx) : OkV P B G σ hp nx w (Instr.fieldAt s vx f) r := by
  unfold doFieldAddr at h
  split at h
  · rename_i fd id off hf
    split at h
    · rename_i n hsz
      refine OkV.rv hr h ?_
      obtain ⟨b, z, hs, rfl⟩ := hx.inv_ptr
      obtain ⟨fs, hu, hfd⟩ := fieldF_spec hf
      refine ⟨.pointer (some ⟨b, off + fd.offset, none⟩), ?_, .ptr _ _ _ _ hs⟩
      simp [Instr.fieldAt, run_und hu, hfd, Instr.sureAddr, fieldPlace, run_size hsz, addr_add]
    · cases h
  · cases h

theorem field_ok (hr : Rel B G σ hp w) {s : TypeId} {x : AV} {f : Nat} {vx : Value} {r : R} (h : doField P nx s x f = some r) (hx : Rv σ x vx) : OkV P B G σ hp nx w (Instr.field s vx f) r := by
  unfold doField at h
  split at h
  · rename_i fd l hf
    refine OkV.rvO hr h fun y hy => ?_
    obtain ⟨vs, hl, h1, rfl⟩ := hx.inv_agg
    obtain ⟨fs, hu, hfd⟩ := fieldF_spec hf
    obtain ⟨v, hv, hxx⟩ := run_part (P := P) (w := w) hl h1 hy
    exact ⟨v, by simp [Instr.field, run_und hu, hfd, asAgg, hv], hxx⟩
  · cases h

theorem indexAddr_ok (hr : Rel B G σ hp w) {t : TypeId} {x i : AV} {vx vi : Value} {r : R} (h : doIndexAddr P nx t x i = some r) (hx : Rv σ x vx) (hi : Rv σ i vi) : OkV P B G σ hp nx w (Instr.indexAt t vx vi) r := by
  unfold doIndexAddr at h
  split at h
  · rename_i k n
    rw [hi.inv_int]
    split at h
    · rename_i e hu
      split at h
      · rename_i id off len cap es s hsz
        rcases cond_eq_some h with ⟨hb, h⟩ | ⟨_, h⟩
        · refine OkV.rv hr h ?_
          obtain ⟨b, z, c, hs, rfl⟩ := hx.inv_sl
          have hlt := blt_iff.1 hb
          refine ⟨.pointer (some ⟨b, off + n * s, none⟩), ?_, .ptr _ _ _ _ hs⟩
          simp [Instr.indexAt, asIntOf, run_und hu, run_size hsz, addr_add, hlt]
        · cases h
      · cases h
    · rename_i len e hu
      split at h
      · rename_i id off s hsz
        rcases cond_eq_some h with ⟨hb, h⟩ | ⟨_, h⟩
        · refine OkV.rv hr h ?_
          obtain ⟨b, z, hs, rfl⟩ := hx.inv_ptr
          have hlt := blt_iff.1 hb
          refine ⟨.pointer (some ⟨b, off + n * s, none⟩), ?_, .ptr _ _ _ _ hs⟩
          simp [Instr.indexAt, asIntOf, run_und hu, run_size hsz, addr_add, hlt, Instr.sureAddr]
        · cases h
      · cases h
    · cases h
  · cases h

theorem nthS_get : ∀ (l : List Nat) (n : Nat), nthS l n = l[n]? := by
  intro l
  induction l with
  | nil => intro n; (rw [nthS_n]; rfl)
  | cons x l ih => intro n; cases n with
    | zero => rfl
    | succ n => simp [nthS_n, nthS_z, nthS_c, ih]

theorem index_ok (hr : Rel B G σ hp w) {t : TypeId} {x i : AV} {vx vi : Value} {r : R} (h : doIndex P nx t x i = some r) (hx : Rv σ x vx) (hi : Rv σ i vi) : OkV P B G σ hp nx w (Instr.index t vx vi) r := by
  unfold doIndex at h
  split at h
  · rename_i k n
    rw [hi.inv_int]
    split at h
    · rename_i hu
      split at h
      · rename_i s
        split at h
        · rename_i b hb
          refine OkV.rv hr h ?_
          obtain ⟨u, rfl, rfl⟩ := hx.inv_str
          rw [nthS_get] at hb
          simp only [ofBA, List.getElem?_map, Option.map_eq_some_iff] at hb
          obtain ⟨y, hy, rfl⟩ := hb
          have hn : n < u.size := by
            have := (List.getElem?_eq_some_iff.1 hy).1
            simpa using this
          have hget : u[n]? = some y := by
            have h2 : u.data.toList[n]? = some u.data[n] := by simp [hn]
            rw [h2] at hy
            simp only [Option.some.injEq] at hy
            rw [← hy]
            exact ByteArray.getElem?_lt' u n hn
          refine ⟨.int .u8 y.toNat, ?_, .int _ _⟩
          simp [Instr.index, asIntOf, run_und hu, hget]
        · cases h
      · cases h
    · rename_i len e hu
      split at h
      · rename_i l s hsz
        rcases cond_eq_some h with ⟨hb, h⟩ | ⟨_, h⟩
        · refine OkV.rvO hr h fun y hy => ?_
          obtain ⟨vs, hl, h1, rfl⟩ := hx.inv_agg
          have hlt := blt_iff.1 hb
          obtain ⟨v, hv, hxx⟩ := run_part (P := P) (w := w) hl h1 hy
          exact ⟨v, by simp [Instr.index, asIntOf, run_und hu, run_size hsz, hlt, hv], hxx⟩
        · cases h
      · cases h
    · cases h
  · cases h

/-! ### Slices of slices -/
theorem bound_spec {v : AV} {top n : Nat} {c : Value} (h : bound v top = some n) (hv : Rv σ v c) (code : BoundsCode) : (Instr.sliceBound c top code).run P w = .ok n w ∧ n ≤ top := by
  unfold bound at h
  split at h
  · rename_i k m
    rcases cond_eq_some h with ⟨hb, h⟩ | ⟨_, h⟩
    · simp only [Option.some.injEq] at h; subst h
      rw [hv.inv_int]
      have := ble_iff.1 hb
      exact ⟨by simp [Instr.sliceBound, asIntOf, this], this⟩
    · cases h
  · cases h

/-- What stands for an operand that may not be there. -/
def RO (σ : Sg) : Option AV → Option Value → Prop
  | none, none => True
  | some a, some v => Rv σ a v
  | _, _ => False

theorem boundO_spec {v : Option AV} {top dflt n : Nat} {c : Option Value} (h : boundO v top dflt = some n) (hv : RO σ v c) (hd : v = none → dflt ≤ top) (code : BoundsCode) :
    (match c with | some u => Instr.sliceBound u top code | none => (pure dflt : Sem Nat)).run P w = .ok n w ∧ n ≤ top := by
  cases v with
  | none =>
    cases c with
    | none => simp only [boundO, Option.some.injEq] at h; subst h; exact ⟨rfl, hd rfl⟩
    | some u => exact hv.elim
  | some v =>
    cases c with
    | none => exact hv.elim
    | some u => exact bound_spec (by simpa [boundO] using h) hv code

theorem sliceStr_ok {s : ByteArray} {lo hi : Option AV} {clo chi : Option Value} {x : AV} {t : TypeId} (hu : P.underlying t = some .string) (h : sliceStr (ofBA s) lo hi = some x) (hlo : RO σ lo clo) (hhi : RO σ hi chi) :
    Runs P σ w (Instr.sliceAt t (.string s) clo chi none) x := by
  unfold sliceStr at h
  split at h
  · rename_i hh hhe
    split at h
    · rename_i ll hle
      simp only [Option.some.injEq] at h; subst h
      rw [ofBA_length] at hhe
      obtain ⟨h1, h2⟩ := boundO_spec (P := P) (w := w) hhe hhi (fun _ => Nat.le_refl _) .sliceAlen
      obtain ⟨h3, h4⟩ := boundO_spec (P := P) (w := w) hle hlo (fun _ => Nat.zero_le _) .sliceB
      refine ⟨.string (s.extract ll hh), ?_, ?_⟩
      · have hb : (Instr.sliceBounds false s.size s.size clo chi none).run P w = .ok (ll, hh, s.size) w := by
          unfold Instr.sliceBounds
          cases chi <;> cases clo <;> simp at h1 h3 ⊢ <;> simp [h1, h3]
        simp [Instr.sliceAt, Instr.slice, run_und hu, hb]
      · have : ((ofBA s).take hh).drop ll = ofBA (s.extract ll hh) := by
          simp only [ofBA, ByteArray.data_extract, Array.toList_extract, List.extract_eq_take_drop, List.map_take, List.map_drop]
          rw [List.drop_take]
        rw [this]; exact .str _
    · cases h
  · cases h

end
end Go.Ex
