/-
  The abstract machine: how its states stand to the model's.
-/
import Derived.Test.YtkidamemnogojaaGreatDoorExDefs
set_option linter.unusedVariables false
set_option linter.unusedSimpArgs false
namespace Go.Ex

theorem beq_t {a b : Nat} (h : a = b) : Nat.beq a b = true := by subst h; exact Nat.beq_refl a
theorem beq_f {a b : Nat} (h : a ≠ b) : Nat.beq a b = false := by
  cases e : Nat.beq a b
  · rfl
  · exact absurd (Nat.eq_of_beq_eq_true e) h

noncomputable def natOf (p : Pth) : Nat := Pth.rec (motive := fun _ => Nat) 0 (fun _ n => 2 * n + 1) (fun _ n => 2 * n + 2) p
theorem natOf_path : ∀ (d n : Nat), n < d → natOf (pathF d n) = n := by
  intro d
  induction d with
  | zero => intro n h; omega
  | succ d ih =>
    intro n h
    show natOf (cond (Nat.beq n 0) .here (cond (Nat.beq (n % 2) 1) (.lft (pathF d (n / 2))) (.rgt (pathF d (n / 2 - 1))))) = n
    by_cases h0 : n = 0
    · subst h0; rfl
    · rw [beq_f h0]
      by_cases h1 : n % 2 = 1
      · rw [beq_t h1]
        show 2 * natOf (pathF d (n / 2)) + 1 = n
        rw [ih _ (by omega)]; omega
      · rw [beq_f h1]
        show 2 * natOf (pathF d (n / 2 - 1)) + 2 = n
        rw [ih _ (by omega)]; omega
theorem pathOf_inj {m n : Nat} (h : pathOf m = pathOf n) : m = n := by
  have h1 := natOf_path (m + 1) m (Nat.lt_succ_self _)
  have h2 := natOf_path (n + 1) n (Nat.lt_succ_self _)
  rw [← h1, ← h2]
  exact congrArg natOf h

namespace Tr
variable {α : Type}
theorem getP_one_same (p : Pth) (x : Option α) : (one p x).getP p = x := by
  induction p with
  | here => rfl
  | lft p ih => exact ih
  | rgt p ih => exact ih
theorem getP_lf (p : Pth) : (Tr.lf : Tr α).getP p = none := rfl
theorem getP_one_other {p q : Pth} (x : Option α) (h : q ≠ p) : (one p x).getP q = none := by
  induction p generalizing q with
  | here => cases q <;> first | exact absurd rfl h | rfl
  | lft p ih => cases q with
    | here => rfl
    | lft q => exact ih (fun e => h (by rw [e]))
    | rgt q => rfl
  | rgt p ih => cases q with
    | here => rfl
    | lft q => rfl
    | rgt q => exact ih (fun e => h (by rw [e]))
theorem getP_setP_same (t : Tr α) (p : Pth) (x : Option α) : (t.setP p x).getP p = x := by
  induction t generalizing p with
  | lf => exact getP_one_same p x
  | nd l v r ihl ihr => cases p with
    | here => rfl
    | lft p => exact ihl p
    | rgt p => exact ihr p
theorem getP_setP_other (t : Tr α) {p q : Pth} (x : Option α) (h : q ≠ p) : (t.setP p x).getP q = t.getP q := by
  induction t generalizing p q with
  | lf => exact getP_one_other x h
  | nd l v r ihl ihr => cases p with
    | here => cases q <;> first | exact absurd rfl h | rfl
    | lft p => cases q with
      | here => rfl
      | lft q => exact ihl (fun e => h (by rw [e]))
      | rgt q => rfl
    | rgt p => cases q with
      | here => rfl
      | lft q => rfl
      | rgt q => exact ihr (fun e => h (by rw [e]))
theorem get_lf (n : Nat) : (Tr.lf : Tr α).get n = none := rfl
theorem get_set_same (t : Tr α) (n : Nat) (x : Option α) : (t.set n x).get n = x := getP_setP_same t _ x
theorem get_set_other (t : Tr α) {n m : Nat} (x : Option α) (h : m ≠ n) : (t.set n x).get m = t.get m := getP_setP_other t x fun e => h (pathOf_inj e)
theorem get_set (t : Tr α) (n m : Nat) (x : Option α) : (t.set n x).get m = if m = n then x else t.get m := by
  by_cases h : m = n
  · subst h; rw [get_set_same, if_pos rfl]
  · rw [get_set_other t x h, if_neg h]
end Tr

/-! ### Values -/
/-- The value of one cell. -/
def oneC : Value → Bool
  | .agg _ => false
  | .tuple _ => false
  | _ => true

abbrev Sg := Nat → Option (Nat × Nat)

inductive Rv (σ : Sg) : AV → Value → Prop
  | junk (v : Value) : Rv σ .junk v
  | one (v : Value) (h : oneC v = true) : Rv σ .one v
  | bool (b : Bool) : Rv σ (.bool b) (.bool b)
  | int (k : IntKind) (n : Int) : Rv σ (.int k n) (.int k n)
  | flt (k : FloatKind) (n : Nat) : Rv σ (.flt k n) (.float k n)
  | str (s : ByteArray) : Rv σ (.str (ofBA s)) (.string s)
  | nilp : Rv σ .nilp (.pointer none)
  | ptr (id off b z : Nat) (h : σ id = some (b, z)) : Rv σ (.ptr id off) (.pointer (some ⟨b, off, none⟩))
  | nils : Rv σ .nils (.slice none 0 0)
  | slc (id off len c es b z : Nat) (h : σ id = some (b, z)) : Rv σ (.sl id off len (some c) es) (.slice (some ⟨b, off, none⟩) len c)
  | slo (id off len c es b z : Nat) (h : σ id = some (b, z)) (hc : off + c * es = z) : Rv σ (.sl id off len none es) (.slice (some ⟨b, off, none⟩) len c)
  | sle (a : Addr) (c : Nat) : Rv σ .sle (.slice (some a) 0 c)
  | nilm : Rv σ .nilm (.map none)
  | map (id b z : Nat) (h : σ id = some (b, z)) : Rv σ (.map id) (.map (some b))
  | fn (f : FuncId) (a b : List AV) (va vb : List Value) (la : a.length = va.length) (lb : b.length = vb.length)
      (ha : ∀ (i : Nat) x v, a[i]? = some x → va[i]? = some v → Rv σ x v) (hb : ∀ (i : Nat) x v, b[i]? = some x → vb[i]? = some v → Rv σ x v) :
      Rv σ (.fn f a b) (.func (.func f) va.toArray vb.toArray)
  | yl (id b z : Nat) (h : σ id = some (b, z)) : Rv σ (.yl id) (.func (.yield b) #[] #[])
  | nilf : Rv σ .nilf .nilFunc
  | iface (t : TypeId) (v : AV) (w : Value) (h : Rv σ v w) : Rv σ (.iface t v) (.iface t w)
  | nili : Rv σ .nili .nilIface
  | agg (l : List AV) (vs : List Value) (hl : l.length = vs.length) (h1 : ∀ v, v ∈ vs → oneC v = true) (h : ∀ (i : Nat) x v, l[i]? = some x → vs[i]? = some v → Rv σ x v) :
      Rv σ (.agg l) (.agg vs.toArray)
  | tup (l : List AV) (vs : List Value) (hl : l.length = vs.length) (h : ∀ (i : Nat) x v, l[i]? = some x → vs[i]? = some v → Rv σ x v) : Rv σ (.tup l) (.tuple vs.toArray)

/-- Lists, one by one. -/
def RL (σ : Sg) (l : List AV) (vs : List Value) : Prop := l.length = vs.length ∧ ∀ (i : Nat) x v, l[i]? = some x → vs[i]? = some v → Rv σ x v

def Sub (σ τ : Sg) : Prop := ∀ i L, σ i = some L → τ i = some L
theorem Sub.refl (σ : Sg) : Sub σ σ := fun _ _ h => h
theorem Sub.trans {σ τ υ : Sg} (h : Sub σ τ) (k : Sub τ υ) : Sub σ υ := fun i L e => k i L (h i L e)

theorem Rv.mono {σ τ : Sg} (hs : Sub σ τ) {a : AV} {v : Value} (h : Rv σ a v) : Rv τ a v := by
  induction h with
  | junk v => exact .junk v
  | one v h => exact .one v h
  | bool b => exact .bool b
  | int k n => exact .int k n
  | flt k n => exact .flt k n
  | str s => exact .str s
  | nilp => exact .nilp
  | ptr id off b z h => exact .ptr id off b z (hs _ _ h)
  | nils => exact .nils
  | slc id off len c es b z h => exact .slc id off len c es b z (hs _ _ h)
  | slo id off len c es b z h hc => exact .slo id off len c es b z (hs _ _ h) hc
  | sle a c => exact .sle a c
  | nilm => exact .nilm
  | map id b z h => exact .map id b z (hs _ _ h)
  | fn f a b va vb la lb _ _ iha ihb => exact .fn f a b va vb la lb iha ihb
  | yl id b z h => exact .yl id b z (hs _ _ h)
  | nilf => exact .nilf
  | iface t v w _ ih => exact .iface t v w ih
  | nili => exact .nili
  | agg l vs hl h1 _ ih => exact .agg l vs hl h1 ih
  | tup l vs hl _ ih => exact .tup l vs hl ih

theorem RL.mono {σ τ : Sg} (hs : Sub σ τ) {l : List AV} {vs : List Value} (h : RL σ l vs) : RL τ l vs := ⟨h.1, fun i x v a b => (h.2 i x v a b).mono hs⟩
theorem RL.nil {σ : Sg} : RL σ [] [] := ⟨rfl, fun i x v h _ => by simp at h⟩
theorem RL.cons {σ : Sg} {x : AV} {v : Value} {l : List AV} {vs : List Value} (hx : Rv σ x v) (h : RL σ l vs) : RL σ (x :: l) (v :: vs) :=
  ⟨by simp [h.1], fun i y u hy hu => by
    cases i with
    | zero => simp at hy hu; subst hy; subst hu; exact hx
    | succ i => simp at hy hu; exact h.2 i y u hy hu⟩
theorem RL.uncons {σ : Sg} {x : AV} {l : List AV} {vs : List Value} (h : RL σ (x :: l) vs) : ∃ v us, vs = v :: us ∧ Rv σ x v ∧ RL σ l us := by
  cases vs with
  | nil => have := h.1; simp at this
  | cons v us => exact ⟨v, us, rfl, h.2 0 x v rfl rfl, by have := h.1; simpa using this, fun i y u hy hu => h.2 (i + 1) y u (by simpa using hy) (by simpa using hu)⟩
theorem RL.of_nil {σ : Sg} {vs : List Value} (h : RL σ [] vs) : vs = [] := by have := h.1; simp at this; exact List.eq_nil_of_length_eq_zero this.symm
theorem RL.append {σ : Sg} {l m : List AV} {vs us : List Value} (h : RL σ l vs) (k : RL σ m us) : RL σ (l ++ m) (vs ++ us) := by
  induction l generalizing vs with
  | nil => rw [h.of_nil]; simpa using k
  | cons x l ih => obtain ⟨v, ws, rfl, hx, hr⟩ := h.uncons; exact .cons hx (ih hr)
theorem RL.get {σ : Sg} {l : List AV} {vs : List Value} (h : RL σ l vs) {i : Nat} {x : AV} (hx : l[i]? = some x) : ∃ v, vs[i]? = some v ∧ Rv σ x v := by
  have hi : i < l.length := (List.getElem?_eq_some_iff.1 hx).1
  have : i < vs.length := h.1 ▸ hi
  exact ⟨vs[i], by simp [this], h.2 i x _ hx (by simp [this])⟩

section inv
variable {σ : Sg} {v : Value}
theorem Rv.inv_bool {b : Bool} (h : Rv σ (.bool b) v) : v = .bool b := by cases h; rfl
theorem Rv.inv_int {k : IntKind} {n : Int} (h : Rv σ (.int k n) v) : v = .int k n := by cases h; rfl
theorem Rv.inv_flt {k : FloatKind} {n : Nat} (h : Rv σ (.flt k n) v) : v = .float k n := by cases h; rfl
theorem Rv.inv_str {l : List Nat} (h : Rv σ (.str l) v) : ∃ s, v = .string s ∧ l = ofBA s := by cases h; exact ⟨_, rfl, rfl⟩
theorem Rv.inv_nilp (h : Rv σ .nilp v) : v = .pointer none := by cases h; rfl
theorem Rv.inv_ptr {id off : Nat} (h : Rv σ (.ptr id off) v) : ∃ b z, σ id = some (b, z) ∧ v = .pointer (some ⟨b, off, none⟩) := by cases h; exact ⟨_, _, ‹_›, rfl⟩
theorem Rv.inv_nils (h : Rv σ .nils v) : v = .slice none 0 0 := by cases h; rfl
theorem Rv.inv_slc {id off len c es : Nat} (h : Rv σ (.sl id off len (some c) es) v) : ∃ b z, σ id = some (b, z) ∧ v = .slice (some ⟨b, off, none⟩) len c := by cases h; exact ⟨_, _, ‹_›, rfl⟩
theorem Rv.inv_slo {id off len es : Nat} (h : Rv σ (.sl id off len none es) v) : ∃ b z c, σ id = some (b, z) ∧ off + c * es = z ∧ v = .slice (some ⟨b, off, none⟩) len c := by cases h; exact ⟨_, _, _, ‹_›, ‹_›, rfl⟩
theorem Rv.inv_sl {id off len es : Nat} {cap : Option Nat} (h : Rv σ (.sl id off len cap es) v) : ∃ b z c, σ id = some (b, z) ∧ v = .slice (some ⟨b, off, none⟩) len c := by
  cases h <;> exact ⟨_, _, _, ‹_›, rfl⟩
theorem Rv.inv_sle (h : Rv σ .sle v) : ∃ a c, v = .slice (some a) 0 c := by cases h; exact ⟨_, _, rfl⟩
theorem Rv.inv_nilm (h : Rv σ .nilm v) : v = .map none := by cases h; rfl
theorem Rv.inv_map {id : Nat} (h : Rv σ (.map id) v) : ∃ b z, σ id = some (b, z) ∧ v = .map (some b) := by cases h; exact ⟨_, _, ‹_›, rfl⟩
theorem Rv.inv_fn {f : FuncId} {a b : List AV} (h : Rv σ (.fn f a b) v) : ∃ va vb, RL σ a va ∧ RL σ b vb ∧ v = .func (.func f) va.toArray vb.toArray := by
  cases h with
  | fn _ _ _ va vb la lb ha hb => exact ⟨va, vb, ⟨la, ha⟩, ⟨lb, hb⟩, rfl⟩
theorem Rv.inv_yl {id : Nat} (h : Rv σ (.yl id) v) : ∃ b z, σ id = some (b, z) ∧ v = .func (.yield b) #[] #[] := by cases h; exact ⟨_, _, ‹_›, rfl⟩
theorem Rv.inv_nilf (h : Rv σ .nilf v) : v = .nilFunc := by cases h; rfl
theorem Rv.inv_iface {t : TypeId} {a : AV} (h : Rv σ (.iface t a) v) : ∃ w, Rv σ a w ∧ v = .iface t w := by cases h; exact ⟨_, ‹_›, rfl⟩
theorem Rv.inv_nili (h : Rv σ .nili v) : v = .nilIface := by cases h; rfl
theorem Rv.inv_agg {l : List AV} (h : Rv σ (.agg l) v) : ∃ vs, RL σ l vs ∧ (∀ u, u ∈ vs → oneC u = true) ∧ v = .agg vs.toArray := by
  cases h with
  | agg _ vs hl h1 h => exact ⟨vs, ⟨hl, h⟩, h1, rfl⟩
theorem Rv.inv_tup {l : List AV} (h : Rv σ (.tup l) v) : ∃ vs, RL σ l vs ∧ v = .tuple vs.toArray := by
  cases h with
  | tup _ vs hl h => exact ⟨vs, ⟨hl, h⟩, rfl⟩
end inv

/-- A value whose cells are known. -/
theorem Rv.cells {σ : Sg} {a : AV} {v : Value} {l : List AV} (h : Rv σ a v) (hl : cellsK a = some l) :
    ∃ vs : List Value, RL σ l vs ∧ (∀ u, u ∈ vs → oneC u = true) ∧ v.cells = vs.toArray := by
  cases h with
  | junk v => simp [cellsK] at hl
  | one v h1 =>
    simp only [cellsK, Option.some.injEq] at hl; subst hl
    have hc : v.cells = #[v] := by cases v <;> first | rfl | simp [oneC] at h1
    exact ⟨[v], .cons (.one v h1) .nil, fun u hu => by simp at hu; subst hu; exact h1, hc⟩
  | tup l vs hl' h => simp [cellsK] at hl
  | agg l' vs hl' h1 h => simp [cellsK] at hl; subst hl; exact ⟨vs, ⟨hl', h⟩, h1, rfl⟩
  | _ =>
    simp only [cellsK, Option.some.injEq] at hl; subst hl
    refine ⟨[_], .cons ?_ .nil, ?_, rfl⟩
    · constructor <;> assumption
    · intro u hu; simp at hu; subst hu; rfl

/-! ### Blocks -/
def RT (σ : Sg) (sz : Nat) (tm : Tr AV) (a : Array Value) : Prop := a.size = sz ∧ ∀ (t : Nat) x, tm.get t = some x → ∃ v, a[t]? = some v ∧ Rv σ x v

inductive Ro (σ : Sg) (sz : Nat) : Blk → Obj → Prop
  | cells (w o : Bool) (tt : Option TypeId) (l : List AV) (c : Array Value) (t : TypeId) (fr : Nat × Nat) (htt : ∀ a, tt = some a → t = a) (hz : c.size = sz) (ho : o = false → l.length = c.size) (hl : l.length ≤ c.size)
      (hf : ∀ (i : Nat), (i < c.size ∨ o = false) → ¬ (fr.1 ≤ i ∧ i < fr.2)) (h1 : ∀ (i : Nat) v, c[i]? = some v → oneC v = true) (h : ∀ (i : Nat) x, l[i]? = some x → ∃ v, c[i]? = some v ∧ Rv σ x v) :
      Ro σ sz (.cells w o tt l) (.cells c t fr)
  | map (w : Bool) (es : List (AV × AV × Nat)) (a : Array MapEntry) (k : Nat) (hl : es.length = a.size)
      (h : ∀ (i : Nat) x e, es[i]? = some x → a[i]? = some e → Rv σ x.1 e.key ∧ Rv σ x.2.1 e.val ∧ e.born = x.2.2) : Ro σ sz (.map w es k) (.map a k)
  | umap (w : Bool) (es : List (AV × AV)) (a : Array MapEntry) (ms : List MapEntry) (k : Nat) (hp : ms.Perm a.toList) (hl : es.length = ms.length)
      (h : ∀ (i : Nat) x e, es[i]? = some x → ms[i]? = some e → Rv σ x.1 e.key ∧ Rv σ x.2 e.val) : Ro σ sz (.umap w es k) (.map a k)
  | siter (s : ByteArray) (pos : Nat) : Ro σ sz (.siter (ofBA s) pos) (.stringIter s pos)
  | miter0 (s : Nat) (seen : Array Nat) (c : Nat) : Ro σ sz (.miter none s seen.toList c) (.mapIter none s seen c)
  | miter (id b z s : Nat) (seen : Array Nat) (c : Nat) (h : σ id = some (b, z)) : Ro σ sz (.miter (some id) s seen.toList c) (.mapIter (some b) s seen c)
  | loop (st : LoopState) (pend : Option Code) (fn : FuncId) (zt : Nat) (tm : Tr AV) (ps : Array Tmp) (a b : Code) (df d z : Nat) (tmps : Array Value)
      (ht : RT σ zt tm tmps) (hd : σ df = some (d, z)) :
      Ro σ sz (.loop st pend fn zt tm ps.toList a b df) (.loop { state := st, pending := pend, fn, tmps, params := ps, assign := a, body := b, defers := d })
  | dfr : Ro σ sz .dfr (.deferred (some []))

theorem RT.mono {σ τ : Sg} (hs : Sub σ τ) {sz : Nat} {tm : Tr AV} {a : Array Value} (h : RT σ sz tm a) : RT τ sz tm a :=
  ⟨h.1, fun t x hx => let ⟨v, hv, hr⟩ := h.2 t x hx; ⟨v, hv, hr.mono hs⟩⟩
theorem Ro.mono {σ τ : Sg} (hs : Sub σ τ) {sz : Nat} {b : Blk} {o : Obj} (h : Ro σ sz b o) : Ro τ sz b o := by
  cases h with
  | cells w o tt l c t fr htt hz ho hl hf h1 h => exact .cells w o tt l c t fr htt hz ho hl hf h1 fun i x hx => let ⟨v, hv, hr⟩ := h i x hx; ⟨v, hv, hr.mono hs⟩
  | map w es a k hl h => exact .map w es a k hl fun i x e hx he => let ⟨p, q, r⟩ := h i x e hx he; ⟨p.mono hs, q.mono hs, r⟩
  | umap w es a ms k hp hl h => exact .umap w es a ms k hp hl fun i x e hx he => let ⟨p, q⟩ := h i x e hx he; ⟨p.mono hs, q.mono hs⟩
  | siter s pos => exact .siter s pos
  | miter0 s seen c => exact .miter0 s seen c
  | miter id b z s seen c h => exact .miter id b z s seen c (hs _ _ h)
  | loop st pend fn zt tm ps a b df d z tmps ht hd => exact .loop st pend fn zt tm ps a b df d z tmps (ht.mono hs) (hs _ _ hd)
  | dfr => exact .dfr

def Blk.wr : Blk → Bool
  | .cells w _ _ _ => w
  | .map w _ _ => w
  | .umap w _ _ => w
  | _ => true

/-- The heap of a state stands for a part of the world's. -/
structure Rel (B G : Nat) (σ : Sg) (hp : Tr Blk) (w : World) : Prop where
  blk : ∀ id b, hp.get id = some b → ∃ k z o, σ id = some (k, z) ∧ w.heap[k]? = some o ∧ Ro σ z b o ∧ (b.wr = true → B ≤ k)
  inj : ∀ i j b c k z z', hp.get i = some b → hp.get j = some c → σ i = some (k, z) → σ j = some (k, z') → i = j
  gl : ∀ g, g < G → ∃ z, σ g = some (g, z)

def Fresh (σ : Sg) (lo hi : Nat) : Prop := ∀ i, lo ≤ i → i < hi → σ i = none

/-- From one state to a later one. -/
structure Ext (σ τ : Sg) (hp hp' : Tr Blk) (nx nx' : Nat) (w w' : World) : Prop where
  sub : Sub σ τ
  dom : ∀ i L, τ i = some L → σ i = some L ∨ (nx ≤ i ∧ i < nx')
  le : nx ≤ nx'
  os : w'.os = w.os
  tape : w'.tape = w.tape
  output : w'.output = w.output
  size : w.heap.size ≤ w'.heap.size
  keep : ∀ k, k < w.heap.size → (∀ i b z, hp.get i = some b → σ i = some (k, z) → b.wr = false) → w'.heap[k]? = w.heap[k]?
  own : ∀ i b k z, hp'.get i = some b → τ i = some (k, z) → (∃ j c z', hp.get j = some c ∧ σ j = some (k, z') ∧ (b.wr = true → c.wr = true)) ∨ w.heap.size ≤ k

theorem Ext.refl (σ : Sg) (hp : Tr Blk) (nx : Nat) (w : World) : Ext σ σ hp hp nx nx w w :=
  ⟨.refl σ, fun _ _ h => .inl h, Nat.le_refl _, rfl, rfl, rfl, Nat.le_refl _, fun _ _ _ => rfl, fun i b k z hb hs => .inl ⟨i, b, z, hb, hs, id⟩⟩

theorem Ext.trans {σ τ υ : Sg} {hp hp' hp'' : Tr Blk} {nx nx' nx'' : Nat} {w w' w'' : World} (h : Ext σ τ hp hp' nx nx' w w') (k : Ext τ υ hp' hp'' nx' nx'' w' w'') :
    Ext σ υ hp hp'' nx nx'' w w'' where
  sub := h.sub.trans k.sub
  dom := fun i L hi => by
    rcases k.dom i L hi with h1 | ⟨h1, h2⟩
    · rcases h.dom i L h1 with h3 | ⟨h3, h4⟩
      · exact .inl h3
      · exact .inr ⟨h3, Nat.lt_of_lt_of_le h4 k.le⟩
    · exact .inr ⟨Nat.le_trans h.le h1, h2⟩
  le := Nat.le_trans h.le k.le
  os := k.os.trans h.os
  tape := k.tape.trans h.tape
  output := k.output.trans h.output
  size := Nat.le_trans h.size k.size
  keep := fun b hb hn => by
    rw [k.keep b (Nat.lt_of_lt_of_le hb h.size) ?_, h.keep b hb hn]
    intro i c z hc hs
    cases hw : c.wr with
    | false => rfl
    | true =>
      rcases h.own i c b z hc hs with ⟨j, d, z', hd, hj, himp⟩ | hge
      · have := hn j d z' hd hj; rw [himp hw] at this; cases this
      · omega
  own := fun i b b' z hb hs => by
    rcases k.own i b b' z hb hs with ⟨j, c, z', hc, hj, himp⟩ | hge
    · rcases h.own j c b' z' hc hj with ⟨j', c', z'', hc', hj', himp'⟩ | hge
      · exact .inl ⟨j', c', z'', hc', hj', fun e => himp' (himp e)⟩
      · exact .inr hge
    · exact .inr (Nat.le_trans h.size hge)

/-- Whatever lay below B lies as it lay. -/
theorem Ext.below {B G : Nat} {σ τ : Sg} {hp hp' : Tr Blk} {nx nx' : Nat} {w w' : World} (h : Ext σ τ hp hp' nx nx' w w') (hr : Rel B G σ hp w) (hB : B ≤ w.heap.size) : RowKit.Below B w w' where
  os := h.os
  tape := h.tape
  output := h.output
  size := h.size
  block := fun k hk => h.keep k (Nat.lt_of_lt_of_le hk hB) fun i b z hb hs => by
    cases hw : b.wr with
    | false => rfl
    | true =>
      obtain ⟨k', z', o, hs', _, _, hge⟩ := hr.blk i b hb
      rw [hs] at hs'; simp at hs'; have := hge hw; omega

/-- A draw turns nothing here. -/
theorem Rel.drawn {B G : Nat} {σ : Sg} {hp : Tr Blk} {w : World} (h : Rel B G σ hp w) (n : Nat) : Rel B G σ hp { w with drawn := n } := ⟨h.blk, h.inj, h.gl⟩
theorem Ext.drawn (σ : Sg) (hp : Tr Blk) (nx : Nat) (w : World) (n : Nat) : Ext σ σ hp hp nx nx w { w with drawn := n } :=
  ⟨.refl σ, fun _ _ h => .inl h, Nat.le_refl _, rfl, rfl, rfl, Nat.le_refl _, fun _ _ _ => rfl, fun i b k z hb hs => .inl ⟨i, b, z, hb, hs, id⟩⟩

/-- A writable block turns. -/
theorem Rel.set {B G : Nat} {σ : Sg} {hp : Tr Blk} {w w' : World} {id k z : Nat} {b b' : Blk} {o' : Obj} (h : Rel B G σ hp w) (hb : hp.get id = some b) (hw : b.wr = true) (hs : σ id = some (k, z))
    (hk : w'.heap[k]? = some o') (hr : Ro σ z b' o') (hw' : b'.wr = true) (hsz : w'.heap.size = w.heap.size) (hoth : ∀ j, j ≠ k → w'.heap[j]? = w.heap[j]?)
    (hos : w'.os = w.os) (htape : w'.tape = w.tape) (hout : w'.output = w.output) (nx : Nat) :
    Rel B G σ (hp.set id (some b')) w' ∧ Ext σ σ hp (hp.set id (some b')) nx nx w w' := by
  obtain ⟨k0, z0, o0, hs0, ho0, hr0, hB0⟩ := h.blk id b hb
  rw [hs] at hs0; simp at hs0; obtain ⟨rfl, rfl⟩ := hs0
  have hne : ∀ j c kj zj, j ≠ id → hp.get j = some c → σ j = some (kj, zj) → kj ≠ k := by
    intro j c kj zj hj hc hsj e; subst e; exact hj (h.inj j id c b kj zj z hc hb hsj hs)
  refine ⟨⟨?_, ?_, h.gl⟩, ⟨.refl σ, fun _ _ h => .inl h, Nat.le_refl _, hos, htape, hout, Nat.le_of_eq hsz.symm, ?_, ?_⟩⟩
  · intro j c hc
    by_cases hj : j = id
    · subst hj; rw [Tr.get_set_same] at hc; cases hc
      exact ⟨k, z, o', hs, hk, hr, fun _ => hB0 hw⟩
    · rw [Tr.get_set_other _ _ hj] at hc
      obtain ⟨kj, zj, oj, hsj, hoj, hrj, hBj⟩ := h.blk j c hc
      exact ⟨kj, zj, oj, hsj, by rw [hoth _ (hne j c kj zj hj hc hsj)]; exact hoj, hrj, hBj⟩
  · intro i j c d kk zi zj hc hd hsi hsj
    have gi : ∃ c', hp.get i = some c' := by
      by_cases hi : i = id
      · exact ⟨b, hi ▸ hb⟩
      · rw [Tr.get_set_other _ _ hi] at hc; exact ⟨c, hc⟩
    have gj : ∃ d', hp.get j = some d' := by
      by_cases hj : j = id
      · exact ⟨b, hj ▸ hb⟩
      · rw [Tr.get_set_other _ _ hj] at hd; exact ⟨d, hd⟩
    obtain ⟨c', hc'⟩ := gi; obtain ⟨d', hd'⟩ := gj
    exact h.inj i j c' d' kk zi zj hc' hd' hsi hsj
  · intro j _ hn
    refine hoth j fun e => ?_
    subst e
    have := hn id b z hb hs; rw [hw] at this; cases this
  · intro i c kk zz hc hsi
    by_cases hi : i = id
    · subst hi; exact .inl ⟨i, b, zz, hb, hsi, fun _ => hw⟩
    · rw [Tr.get_set_other _ _ hi] at hc; exact .inl ⟨i, c, zz, hc, hsi, fun e => e⟩

/-- A new name in σ. -/
def Sg.put (σ : Sg) (id : Nat) (L : Nat × Nat) : Sg := fun i => if i = id then some L else σ i
theorem Sg.put_same (σ : Sg) (id : Nat) (L : Nat × Nat) : σ.put id L id = some L := by simp [Sg.put]
theorem Sg.put_other (σ : Sg) {id i : Nat} (L : Nat × Nat) (h : i ≠ id) : σ.put id L i = σ i := by simp [Sg.put, h]
theorem Sub.put {σ : Sg} {id : Nat} (L : Nat × Nat) (h : σ id = none) : Sub σ (σ.put id L) := fun i M hi => by
  by_cases e : i = id
  · subst e; rw [h] at hi; cases hi
  · rw [Sg.put_other _ _ e]; exact hi

/-- A new block. -/
theorem Rel.new {B G : Nat} {σ : Sg} {hp : Tr Blk} {w : World} {nx z : Nat} {b : Blk} {o : Obj} (h : Rel B G σ hp w) (hB : B ≤ w.heap.size) (hfr : σ nx = none)
    (hr : Ro (σ.put nx (w.heap.size, z)) z b o) {w' : World} (hheap : w'.heap = w.heap.push o) (hos : w'.os = w.os) (htape : w'.tape = w.tape) (hout : w'.output = w.output) :
    Rel B G (σ.put nx (w.heap.size, z)) (hp.set nx (some b)) w' ∧ Ext σ (σ.put nx (w.heap.size, z)) hp (hp.set nx (some b)) nx (nx + 1) w w' := by
  have hsub : Sub σ (σ.put nx (w.heap.size, z)) := Sub.put _ hfr
  have hnone : ∀ j c, hp.get j = some c → j ≠ nx := fun j c hc e => by
    subst e; obtain ⟨k, z, o, hs, _⟩ := h.blk j c hc; rw [hfr] at hs; cases hs
  have hlt : ∀ j c k z, hp.get j = some c → σ j = some (k, z) → k < w.heap.size := fun j c k z hc hs => by
    obtain ⟨k', z', o', hs', ho', _⟩ := h.blk j c hc
    rw [hs] at hs'; simp at hs'; obtain ⟨rfl, rfl⟩ := hs'
    exact (Array.getElem?_eq_some_iff.1 ho').1
  refine ⟨⟨?_, ?_, fun g hg => let ⟨z, hz⟩ := h.gl g hg; ⟨z, hsub _ _ hz⟩⟩, ⟨hsub, ?_, Nat.le_succ _, hos, htape, hout, by simp [hheap], ?_, ?_⟩⟩
  · intro j c hc
    by_cases hj : j = nx
    · subst hj; rw [Tr.get_set_same] at hc; cases hc
      exact ⟨w.heap.size, z, o, Sg.put_same _ _ _, by simp [hheap], hr, fun _ => hB⟩
    · rw [Tr.get_set_other _ _ hj] at hc
      obtain ⟨kj, zj, oj, hsj, hoj, hrj, hBj⟩ := h.blk j c hc
      have := hlt j c kj zj hc hsj
      exact ⟨kj, zj, oj, hsub _ _ hsj, by rw [hheap, Array.getElem?_push, if_neg (by omega)]; exact hoj, hrj.mono hsub, hBj⟩
  · intro i j c d k zi zj hc hd hsi hsj
    by_cases hi : i = nx
    · by_cases hj : j = nx
      · rw [hi, hj]
      · exfalso
        subst hi; rw [Sg.put_same] at hsi; simp at hsi
        rw [Tr.get_set_other _ _ hj] at hd; rw [Sg.put_other _ _ hj] at hsj
        have := hlt j d k zj hd hsj; omega
    · rw [Tr.get_set_other _ _ hi] at hc; rw [Sg.put_other _ _ hi] at hsi
      by_cases hj : j = nx
      · exfalso
        subst hj; rw [Sg.put_same] at hsj; simp at hsj
        have := hlt i c k zi hc hsi; omega
      · rw [Tr.get_set_other _ _ hj] at hd; rw [Sg.put_other _ _ hj] at hsj
        exact h.inj i j c d k zi zj hc hd hsi hsj
  · intro i L hi
    by_cases e : i = nx
    · exact .inr ⟨by omega, by omega⟩
    · rw [Sg.put_other _ _ e] at hi; exact .inl hi
  · intro k hk _
    rw [hheap, Array.getElem?_push, if_neg (by omega)]
  · intro i c k zz hc hsi
    by_cases hi : i = nx
    · subst hi; rw [Sg.put_same] at hsi; simp at hsi; exact .inr (by omega)
    · rw [Tr.get_set_other _ _ hi] at hc; rw [Sg.put_other _ _ hi] at hsi; exact .inl ⟨i, c, zz, hc, hsi, fun e => e⟩

/-- A writable block turns and takes a new name. -/
theorem Rel.rename {B G : Nat} {σ : Sg} {hp : Tr Blk} {w w' : World} {id k z nx : Nat} {b b' : Blk} {o' : Obj} (h : Rel B G σ hp w) (hb : hp.get id = some b) (hw : b.wr = true) (hs : σ id = some (k, z)) (hfr : σ nx = none)
    (hk : w'.heap[k]? = some o') (hr : Ro (σ.put nx (k, z)) z b' o') (hsz : w'.heap.size = w.heap.size) (hoth : ∀ j, j ≠ k → w'.heap[j]? = w.heap[j]?)
    (hos : w'.os = w.os) (htape : w'.tape = w.tape) (hout : w'.output = w.output) :
    Rel B G (σ.put nx (k, z)) ((hp.set id none).set nx (some b')) w' ∧ Ext σ (σ.put nx (k, z)) hp ((hp.set id none).set nx (some b')) nx (nx + 1) w w' := by
  have hsub : Sub σ (σ.put nx (k, z)) := Sub.put _ hfr
  obtain ⟨k0, z0, o0, hs0, ho0, hr0, hB0⟩ := h.blk id b hb
  rw [hs] at hs0; simp at hs0; obtain ⟨rfl, rfl⟩ := hs0
  have hne : ∀ j c kj zj, j ≠ id → hp.get j = some c → σ j = some (kj, zj) → kj ≠ k := by
    intro j c kj zj hj hc hsj e; subst e; exact hj (h.inj j id c b kj zj z hc hb hsj hs)
  have hget : ∀ j c, j ≠ nx → ((hp.set id none).set nx (some b')).get j = some c → j ≠ id ∧ hp.get j = some c := by
    intro j c hj hc
    rw [Tr.get_set_other _ _ hj] at hc
    by_cases e : j = id
    · subst e; rw [Tr.get_set_same] at hc; cases hc
    · rw [Tr.get_set_other _ _ e] at hc; exact ⟨e, hc⟩
  refine ⟨⟨?_, ?_, fun g hg => let ⟨z, hz⟩ := h.gl g hg; ⟨z, hsub _ _ hz⟩⟩, ⟨hsub, ?_, Nat.le_succ _, hos, htape, hout, Nat.le_of_eq hsz.symm, ?_, ?_⟩⟩
  · intro j c hc
    by_cases hj : j = nx
    · subst hj; rw [Tr.get_set_same] at hc; cases hc
      exact ⟨k, z, o', Sg.put_same _ _ _, hk, hr, fun _ => hB0 hw⟩
    · obtain ⟨hji, hc⟩ := hget j c hj hc
      obtain ⟨kj, zj, oj, hsj, hoj, hrj, hBj⟩ := h.blk j c hc
      exact ⟨kj, zj, oj, hsub _ _ hsj, by rw [hoth _ (hne j c kj zj hji hc hsj)]; exact hoj, hrj.mono hsub, hBj⟩
  · intro i j c d kk zi zj hc hd hsi hsj
    by_cases hi : i = nx
    · by_cases hj : j = nx
      · rw [hi, hj]
      · exfalso
        obtain ⟨hji, hd⟩ := hget j d hj hd
        rw [hi, Sg.put_same] at hsi; simp at hsi
        rw [Sg.put_other _ _ hj] at hsj
        exact hne j d kk zj hji hd hsj hsi.1.symm
    · obtain ⟨hii, hc⟩ := hget i c hi hc
      rw [Sg.put_other _ _ hi] at hsi
      by_cases hj : j = nx
      · exfalso
        rw [hj, Sg.put_same] at hsj; simp at hsj
        exact hne i c kk zi hii hc hsi hsj.1.symm
      · obtain ⟨hjj, hd⟩ := hget j d hj hd
        rw [Sg.put_other _ _ hj] at hsj
        exact h.inj i j c d kk zi zj hc hd hsi hsj
  · intro i L hi
    by_cases e : i = nx
    · exact .inr ⟨by omega, by omega⟩
    · rw [Sg.put_other _ _ e] at hi; exact .inl hi
  · intro j _ hn
    refine hoth j fun e => ?_
    subst e
    have := hn id b z hb hs; rw [hw] at this; cases this
  · intro i c kk zz hc hsi
    by_cases hi : i = nx
    · rw [hi, Sg.put_same] at hsi; simp at hsi; obtain ⟨rfl, rfl⟩ := hsi
      exact .inl ⟨id, b, z, hb, hs, fun _ => hw⟩
    · obtain ⟨_, hc⟩ := hget i c hi hc
      rw [Sg.put_other _ _ hi] at hsi; exact .inl ⟨i, c, zz, hc, hsi, fun e => e⟩

/-- A block is given up. -/
theorem Rel.drop {B G : Nat} {σ : Sg} {hp : Tr Blk} {w : World} (h : Rel B G σ hp w) (id nx : Nat) : Rel B G σ (hp.set id none) w ∧ Ext σ σ hp (hp.set id none) nx nx w w := by
  have hg : ∀ j c, (hp.set id none).get j = some c → hp.get j = some c := fun j c hc => by
    by_cases hj : j = id
    · subst hj; rw [Tr.get_set_same] at hc; cases hc
    · rwa [Tr.get_set_other _ _ hj] at hc
  exact ⟨⟨fun j c hc => h.blk j c (hg j c hc), fun i j c d k zi zj hc hd => h.inj i j c d k zi zj (hg i c hc) (hg j d hd), h.gl⟩,
    ⟨.refl σ, fun _ _ h => .inl h, Nat.le_refl _, rfl, rfl, rfl, Nat.le_refl _, fun _ _ _ => rfl, fun i b k z hb hs => .inl ⟨i, b, z, hg i b hb, hs, fun e => e⟩⟩⟩

end Go.Ex
