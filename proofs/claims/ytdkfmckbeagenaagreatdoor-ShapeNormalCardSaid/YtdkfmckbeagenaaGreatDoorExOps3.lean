/-
  The abstract machine: how its states stand to the model's.
 The abstract machine: lists of cells, and how the model's small steps run.
 The abstract machine: operations that turn no memory.
 The abstract machine: places, parts, slices of slices, new blocks, stores.
 The abstract machine: slices of slices, building, new blocks, stores.
-/
import Derived.Test.YtdkfmckbeagenaaGreatDoorExDefs
import Derived.Laws.Tables
import Derived.Laws.BytesString
import Derived.Laws.Strings
set_option linter.unusedVariables false
set_option linter.unusedSimpArgs false
namespace Go.Ex

theorem beq_t {a b : Nat} (h : a = b) : Nat.beq a b = true := by subst h; exact Nat.beq_refl a
theorem beq_f {a b : Nat} (h : a ≠ b) : Nat.beq a b = false := by
 cases e : Nat.beq a b
 ·rfl
 ·exact absurd (Nat.eq_of_beq_eq_true e) h
noncomputable def natOf (p : Pth) : Nat := Pth.rec (motive := fun _ => Nat) 0 (fun _ n => 2 * n + 1) (fun _ n => 2 * n + 2) p
theorem natOf_path : ∀ (d n : Nat), n < d → natOf (pathF d n) = n := by
 intro d
 induction d with
 | zero => intro n h; omega
 | succ d ih =>
  intro n h
  show natOf (cond (Nat.beq n 0) .here (cond (Nat.beq (n % 2) 1) (.lft (pathF d (n / 2))) (.rgt (pathF d (n / 2 - 1))))) = n
  by_cases h0 : n = 0
  ·subst h0; rfl
  ·rw [beq_f h0]
   by_cases h1 : n % 2 = 1
   ·rw [beq_t h1]
    show 2 * natOf (pathF d (n / 2)) + 1 = n
    rw [ih _ (by omega)]; omega
   ·rw [beq_f h1]
    show 2 * natOf (pathF d (n / 2 - 1)) + 2 = n
    rw [ih _ (by omega)]; omega
theorem pathOf_inj {m n : Nat} (h : pathOf m = pathOf n) : m = n := by
 have h1 := natOf_path (m + 1) m (Nat.lt_succ_self _)
 have h2 := natOf_path (n + 1) n (Nat.lt_succ_self _)
 rw [← h1, ← h2]
 exact congrArg natOf h
namespace Tr
variable {α : Type}
theorem getP_one_same (p : Pth) (x : Option α) : (one p x).getP p = x := by
 induction p with
 | here => rfl
 | lft p ih => exact ih
 | rgt p ih => exact ih
theorem getP_one_other {p q : Pth} (x : Option α) (h : q ≠ p) : (one p x).getP q = none := by
 induction p generalizing q with
 | here => cases q <;> first | exact absurd rfl h | rfl
 | lft p ih => cases q with
  | here => rfl
  | lft q => exact ih (fun e => h (by rw [e]))
  | rgt q => rfl
 | rgt p ih => cases q with
  | here => rfl
  | lft q => rfl
  | rgt q => exact ih (fun e => h (by rw [e]))
theorem getP_setP_same (t : Tr α) (p : Pth) (x : Option α) : (t.setP p x).getP p = x := by
 induction t generalizing p with
 | lf => exact getP_one_same p x
 | nd l v r ihl ihr => cases p with
  | here => rfl
  | lft p => exact ihl p
  | rgt p => exact ihr p
theorem getP_setP_other (t : Tr α) {p q : Pth} (x : Option α) (h : q ≠ p) : (t.setP p x).getP q = t.getP q := by
 induction t generalizing p q with
 | lf => exact getP_one_other x h
 | nd l v r ihl ihr => cases p with
  | here => cases q <;> first | exact absurd rfl h | rfl
  | lft p => cases q with
   | here => rfl
   | lft q => exact ihl (fun e => h (by rw [e]))
   | rgt q => rfl
  | rgt p => cases q with
   | here => rfl
   | lft q => rfl
   | rgt q => exact ihr (fun e => h (by rw [e]))
theorem get_lf (n : Nat) : (Tr.lf : Tr α).get n = none := rfl
theorem get_set_same (t : Tr α) (n : Nat) (x : Option α) : (t.set n x).get n = x := getP_setP_same t _ x
theorem get_set_other (t : Tr α) {n m : Nat} (x : Option α) (h : m ≠ n) : (t.set n x).get m = t.get m := getP_setP_other t x fun e => h (pathOf_inj e)
theorem get_set (t : Tr α) (n m : Nat) (x : Option α) : (t.set n x).get m = if m = n then x else t.get m := by
 by_cases h : m = n
 ·subst h; rw [get_set_same, if_pos rfl]
 ·rw [get_set_other t x h, if_neg h]
end Tr

def oneC : Value → Bool
 | .agg _ => false
 | .tuple _ => false
 | _ => true
abbrev Sg := Nat → Option (Nat × Nat)
def CapOk (c : Nat) : Prop := c ≤ 9223372036854775807
inductive Rv (σ : Sg) : AV → Value → Prop
 | junk (v : Value) : Rv σ .junk v
 | one (v : Value) (h : oneC v = true) : Rv σ .one v
 | bool (b : Bool) : Rv σ (.bool b) (.bool b)
 | int (k : IntKind) (n : Int) : Rv σ (.int k n) (.int k n)
 | flt (k : FloatKind) (n : Nat) : Rv σ (.flt k n) (.float k n)
 | str (s : ByteArray) : Rv σ (.str (ofBA s)) (.string s)
 | nilp : Rv σ .nilp (.pointer none)
 | ptr (id off b z : Nat) (h : σ id = some (b, z)) : Rv σ (.ptr id off) (.pointer (some ⟨b, off, none⟩))
 | nils : Rv σ .nils (.slice none 0 0)
 | slc (id off len c es b z : Nat) (h : σ id = some (b, z)) : Rv σ (.sl id off len (some c) es) (.slice (some ⟨b, off, none⟩) len c)
 | slo (id off len c es b z : Nat) (h : σ id = some (b, z)) (hc : off + c * es = z) (hm : CapOk c) : Rv σ (.sl id off len none es) (.slice (some ⟨b, off, none⟩) len c)
 | sle (a : Addr) (c : Nat) : Rv σ .sle (.slice (some a) 0 c)
 | nilm : Rv σ .nilm (.map none)
 | map (id b z : Nat) (h : σ id = some (b, z)) : Rv σ (.map id) (.map (some b))
 | fn (f : FuncId) (a b : List AV) (va vb : List Value) (la : a.length = va.length) (lb : b.length = vb.length)
   (ha : ∀ (i : Nat) x v, a[i]? = some x → va[i]? = some v → Rv σ x v) (hb : ∀ (i : Nat) x v, b[i]? = some x → vb[i]? = some v → Rv σ x v) :
   Rv σ (.fn f a b) (.func (.func f) va.toArray vb.toArray)
 | yl (id b z : Nat) (h : σ id = some (b, z)) : Rv σ (.yl id) (.func (.yield b) #[] #[])
 | nilf : Rv σ .nilf .nilFunc
 | iface (t : TypeId) (v : AV) (w : Value) (h : Rv σ v w) : Rv σ (.iface t v) (.iface t w)
 | nili : Rv σ .nili .nilIface
 | agg (l : List AV) (vs : List Value) (hl : l.length = vs.length) (h1 : ∀ v, v ∈ vs → oneC v = true) (h : ∀ (i : Nat) x v, l[i]? = some x → vs[i]? = some v → Rv σ x v) :
   Rv σ (.agg l) (.agg vs.toArray)
 | tup (l : List AV) (vs : List Value) (hl : l.length = vs.length) (h : ∀ (i : Nat) x v, l[i]? = some x → vs[i]? = some v → Rv σ x v) : Rv σ (.tup l) (.tuple vs.toArray)
def RL (σ : Sg) (l : List AV) (vs : List Value) : Prop := l.length = vs.length ∧ ∀ (i : Nat) x v, l[i]? = some x → vs[i]? = some v → Rv σ x v
def Sub (σ τ : Sg) : Prop := ∀ i L, σ i = some L → τ i = some L
theorem Sub.refl (σ : Sg) : Sub σ σ := fun _ _ h => h
theorem Sub.trans {σ τ υ : Sg} (h : Sub σ τ) (k : Sub τ υ) : Sub σ υ := fun i L e => k i L (h i L e)
theorem Rv.mono {σ τ : Sg} (hs : Sub σ τ) {a : AV} {v : Value} (h : Rv σ a v) : Rv τ a v := by
 induction h with
 | junk v => exact .junk v
 | one v h => exact .one v h
 | bool b => exact .bool b
 | int k n => exact .int k n
 | flt k n => exact .flt k n
 | str s => exact .str s
 | nilp => exact .nilp
 | ptr id off b z h => exact .ptr id off b z (hs _ _ h)
 | nils => exact .nils
 | slc id off len c es b z h => exact .slc id off len c es b z (hs _ _ h)
 | slo id off len c es b z h hc hm => exact .slo id off len c es b z (hs _ _ h) hc hm
 | sle a c => exact .sle a c
 | nilm => exact .nilm
 | map id b z h => exact .map id b z (hs _ _ h)
 | fn f a b va vb la lb _ _ iha ihb => exact .fn f a b va vb la lb iha ihb
 | yl id b z h => exact .yl id b z (hs _ _ h)
 | nilf => exact .nilf
 | iface t v w _ ih => exact .iface t v w ih
 | nili => exact .nili
 | agg l vs hl h1 _ ih => exact .agg l vs hl h1 ih
 | tup l vs hl _ ih => exact .tup l vs hl ih
theorem RL.mono {σ τ : Sg} (hs : Sub σ τ) {l : List AV} {vs : List Value} (h : RL σ l vs) : RL τ l vs := ⟨h.1, fun i x v a b => (h.2 i x v a b).mono hs⟩
theorem RL.nil {σ : Sg} : RL σ [] [] := ⟨rfl, fun i x v h _ => by simp at h⟩
theorem RL.cons {σ : Sg} {x : AV} {v : Value} {l : List AV} {vs : List Value} (hx : Rv σ x v) (h : RL σ l vs) : RL σ (x :: l) (v :: vs) :=
 ⟨by simp [h.1], fun i y u hy hu => by
  cases i with
  | zero => simp at hy hu; subst hy; subst hu; exact hx
  | succ i => simp at hy hu; exact h.2 i y u hy hu⟩
theorem RL.uncons {σ : Sg} {x : AV} {l : List AV} {vs : List Value} (h : RL σ (x :: l) vs) : ∃ v us, vs = v :: us ∧ Rv σ x v ∧ RL σ l us := by
 cases vs with
 | nil => have := h.1; simp at this
 | cons v us => exact ⟨v, us, rfl, h.2 0 x v rfl rfl, by have := h.1; simpa using this, fun i y u hy hu => h.2 (i + 1) y u (by simpa using hy) (by simpa using hu)⟩
theorem RL.of_nil {σ : Sg} {vs : List Value} (h : RL σ [] vs) : vs = [] := by have := h.1; simp at this; exact List.eq_nil_of_length_eq_zero this.symm
theorem RL.append {σ : Sg} {l m : List AV} {vs us : List Value} (h : RL σ l vs) (k : RL σ m us) : RL σ (l ++ m) (vs ++ us) := by
 induction l generalizing vs with
 | nil => rw [h.of_nil]; simpa using k
 | cons x l ih => obtain ⟨v, ws, rfl, hx, hr⟩ := h.uncons; exact .cons hx (ih hr)
theorem RL.get {σ : Sg} {l : List AV} {vs : List Value} (h : RL σ l vs) {i : Nat} {x : AV} (hx : l[i]? = some x) : ∃ v, vs[i]? = some v ∧ Rv σ x v := by
 have hi : i < l.length := (List.getElem?_eq_some_iff.1 hx).1
 have : i < vs.length := h.1 ▸ hi
 exact ⟨vs[i], by simp [this], h.2 i x _ hx (by simp [this])⟩
section inv
variable {σ : Sg} {v : Value}
theorem Rv.inv_bool {b : Bool} (h : Rv σ (.bool b) v) : v = .bool b := by cases h; rfl
theorem Rv.inv_int {k : IntKind} {n : Int} (h : Rv σ (.int k n) v) : v = .int k n := by cases h; rfl
theorem Rv.inv_flt {k : FloatKind} {n : Nat} (h : Rv σ (.flt k n) v) : v = .float k n := by cases h; rfl
theorem Rv.inv_str {l : List Nat} (h : Rv σ (.str l) v) : ∃ s, v = .string s ∧ l = ofBA s := by cases h; exact ⟨_, rfl, rfl⟩
theorem Rv.inv_nilp (h : Rv σ .nilp v) : v = .pointer none := by cases h; rfl
theorem Rv.inv_ptr {id off : Nat} (h : Rv σ (.ptr id off) v) : ∃ b z, σ id = some (b, z) ∧ v = .pointer (some ⟨b, off, none⟩) := by cases h; exact ⟨_, _, ‹_›, rfl⟩
theorem Rv.inv_nils (h : Rv σ .nils v) : v = .slice none 0 0 := by cases h; rfl
theorem Rv.inv_slc {id off len c es : Nat} (h : Rv σ (.sl id off len (some c) es) v) : ∃ b z, σ id = some (b, z) ∧ v = .slice (some ⟨b, off, none⟩) len c := by cases h; exact ⟨_, _, ‹_›, rfl⟩
theorem Rv.inv_slo {id off len es : Nat} (h : Rv σ (.sl id off len none es) v) : ∃ b z c, σ id = some (b, z) ∧ off + c * es = z ∧ CapOk c ∧ v = .slice (some ⟨b, off, none⟩) len c := by cases h; exact ⟨_, _, _, ‹_›, ‹_›, ‹_›, rfl⟩
theorem Rv.inv_sl {id off len es : Nat} {cap : Option Nat} (h : Rv σ (.sl id off len cap es) v) : ∃ b z c, σ id = some (b, z) ∧ v = .slice (some ⟨b, off, none⟩) len c := by
 cases h <;> exact ⟨_, _, _, ‹_›, rfl⟩
theorem Rv.inv_sle (h : Rv σ .sle v) : ∃ a c, v = .slice (some a) 0 c := by cases h; exact ⟨_, _, rfl⟩
theorem Rv.inv_nilm (h : Rv σ .nilm v) : v = .map none := by cases h; rfl
theorem Rv.inv_map {id : Nat} (h : Rv σ (.map id) v) : ∃ b z, σ id = some (b, z) ∧ v = .map (some b) := by cases h; exact ⟨_, _, ‹_›, rfl⟩
theorem Rv.inv_fn {f : FuncId} {a b : List AV} (h : Rv σ (.fn f a b) v) : ∃ va vb, RL σ a va ∧ RL σ b vb ∧ v = .func (.func f) va.toArray vb.toArray := by
 cases h with
 | fn _ _ _ va vb la lb ha hb => exact ⟨va, vb, ⟨la, ha⟩, ⟨lb, hb⟩, rfl⟩
theorem Rv.inv_yl {id : Nat} (h : Rv σ (.yl id) v) : ∃ b z, σ id = some (b, z) ∧ v = .func (.yield b) #[] #[] := by cases h; exact ⟨_, _, ‹_›, rfl⟩
theorem Rv.inv_nilf (h : Rv σ .nilf v) : v = .nilFunc := by cases h; rfl
theorem Rv.inv_iface {t : TypeId} {a : AV} (h : Rv σ (.iface t a) v) : ∃ w, Rv σ a w ∧ v = .iface t w := by cases h; exact ⟨_, ‹_›, rfl⟩
theorem Rv.inv_nili (h : Rv σ .nili v) : v = .nilIface := by cases h; rfl
theorem Rv.inv_agg {l : List AV} (h : Rv σ (.agg l) v) : ∃ vs, RL σ l vs ∧ (∀ u, u ∈ vs → oneC u = true) ∧ v = .agg vs.toArray := by
 cases h with
 | agg _ vs hl h1 h => exact ⟨vs, ⟨hl, h⟩, h1, rfl⟩
theorem Rv.inv_tup {l : List AV} (h : Rv σ (.tup l) v) : ∃ vs, RL σ l vs ∧ v = .tuple vs.toArray := by
 cases h with
 | tup _ vs hl h => exact ⟨vs, ⟨hl, h⟩, rfl⟩
end inv

theorem Rv.cells {σ : Sg} {a : AV} {v : Value} {l : List AV} (h : Rv σ a v) (hl : cellsK a = some l) :
  ∃ vs : List Value, RL σ l vs ∧ (∀ u, u ∈ vs → oneC u = true) ∧ v.cells = vs.toArray := by
 cases h with
 | junk v => simp [cellsK] at hl
 | one v h1 =>
  simp only [cellsK, Option.some.injEq] at hl; subst hl
  have hc : v.cells = #[v] := by cases v <;> first | rfl | simp [oneC] at h1
  exact ⟨[v], .cons (.one v h1) .nil, fun u hu => by simp at hu; subst hu; exact h1, hc⟩
 | tup l vs hl' h => simp [cellsK] at hl
 | agg l' vs hl' h1 h => simp [cellsK] at hl; subst hl; exact ⟨vs, ⟨hl', h⟩, h1, rfl⟩
 | _ =>
  simp only [cellsK, Option.some.injEq] at hl; subst hl
  refine ⟨[_], .cons ?_ .nil, ?_, rfl⟩
  ·constructor <;> assumption
  ·intro u hu; simp at hu; subst hu; rfl
def RT (σ : Sg) (sz : Nat) (tm : Tr AV) (a : Array Value) : Prop := a.size = sz ∧ ∀ (t : Nat) x, tm.get t = some x → ∃ v, a[t]? = some v ∧ Rv σ x v
inductive Ro (σ : Sg) (sz : Nat) : Blk → Obj → Prop
 | cells (w o : Bool) (tt : Option TypeId) (l : List AV) (c : Array Value) (t : TypeId) (fr : Nat × Nat) (htt : ∀ a, tt = some a → t = a) (hz : c.size = sz) (ho : o = false → l.length = c.size) (hl : l.length ≤ c.size)
   (hf : ∀ (i : Nat), (i < c.size ∨ o = false) → ¬ (fr.1 ≤ i ∧ i < fr.2)) (h1 : ∀ (i : Nat) v, c[i]? = some v → oneC v = true) (h : ∀ (i : Nat) x, l[i]? = some x → ∃ v, c[i]? = some v ∧ Rv σ x v) :
   Ro σ sz (.cells w o tt l) (.cells c t fr)
 | map (w : Bool) (es : List (AV × AV × Nat)) (a : Array MapEntry) (k : Nat) (hl : es.length = a.size)
   (h : ∀ (i : Nat) x e, es[i]? = some x → a[i]? = some e → Rv σ x.1 e.key ∧ Rv σ x.2.1 e.val ∧ e.born = x.2.2) : Ro σ sz (.map w es k) (.map a k)
 | umap (w : Bool) (es : List (AV × AV)) (a : Array MapEntry) (ms : List MapEntry) (k : Nat) (hp : ms.Perm a.toList) (hl : es.length = ms.length)
   (h : ∀ (i : Nat) x e, es[i]? = some x → ms[i]? = some e → Rv σ x.1 e.key ∧ Rv σ x.2 e.val) : Ro σ sz (.umap w es k) (.map a k)
 | siter (s : ByteArray) (pos : Nat) : Ro σ sz (.siter (ofBA s) pos) (.stringIter s pos)
 | miter0 (s : Nat) (seen : Array Nat) (c : Nat) : Ro σ sz (.miter none s seen.toList c) (.mapIter none s seen c)
 | miter (id b z s : Nat) (seen : Array Nat) (c : Nat) (h : σ id = some (b, z)) : Ro σ sz (.miter (some id) s seen.toList c) (.mapIter (some b) s seen c)
 | loop (st : LoopState) (pend : Option Code) (fn : FuncId) (zt : Nat) (tm : Tr AV) (ps : Array Tmp) (a b : Code) (df d z : Nat) (tmps : Array Value)
   (ht : RT σ zt tm tmps) (hd : σ df = some (d, z)) :
   Ro σ sz (.loop st pend fn zt tm ps.toList a b df) (.loop { state := st, pending := pend, fn, tmps, params := ps, assign := a, body := b, defers := d })
 | dfr : Ro σ sz .dfr (.deferred (some []))
theorem RT.mono {σ τ : Sg} (hs : Sub σ τ) {sz : Nat} {tm : Tr AV} {a : Array Value} (h : RT σ sz tm a) : RT τ sz tm a :=
 ⟨h.1, fun t x hx => let ⟨v, hv, hr⟩ := h.2 t x hx; ⟨v, hv, hr.mono hs⟩⟩
theorem Ro.mono {σ τ : Sg} (hs : Sub σ τ) {sz : Nat} {b : Blk} {o : Obj} (h : Ro σ sz b o) : Ro τ sz b o := by
 cases h with
 | cells w o tt l c t fr htt hz ho hl hf h1 h => exact .cells w o tt l c t fr htt hz ho hl hf h1 fun i x hx => let ⟨v, hv, hr⟩ := h i x hx; ⟨v, hv, hr.mono hs⟩
 | map w es a k hl h => exact .map w es a k hl fun i x e hx he => let ⟨p, q, r⟩ := h i x e hx he; ⟨p.mono hs, q.mono hs, r⟩
 | umap w es a ms k hp hl h => exact .umap w es a ms k hp hl fun i x e hx he => let ⟨p, q⟩ := h i x e hx he; ⟨p.mono hs, q.mono hs⟩
 | siter s pos => exact .siter s pos
 | miter0 s seen c => exact .miter0 s seen c
 | miter id b z s seen c h => exact .miter id b z s seen c (hs _ _ h)
 | loop st pend fn zt tm ps a b df d z tmps ht hd => exact .loop st pend fn zt tm ps a b df d z tmps (ht.mono hs) (hs _ _ hd)
 | dfr => exact .dfr
def Blk.wr : Blk → Bool
 | .cells w _ _ _ => w
 | .map w _ _ => w
 | .umap w _ _ => w
 | _ => true
structure Rel (B G : Nat) (σ : Sg) (hp : Tr Blk) (w : World) : Prop where
 blk : ∀ id b, hp.get id = some b → ∃ k z o, σ id = some (k, z) ∧ w.heap[k]? = some o ∧ Ro σ z b o ∧ (b.wr = true → B ≤ k)
 inj : ∀ i j b c k z z', hp.get i = some b → hp.get j = some c → σ i = some (k, z) → σ j = some (k, z') → i = j
 gl : ∀ g, g < G → ∃ z, σ g = some (g, z)
def Fresh (σ : Sg) (lo hi : Nat) : Prop := ∀ i, lo ≤ i → i < hi → σ i = none
structure Ext (σ τ : Sg) (hp hp' : Tr Blk) (nx nx' : Nat) (w w' : World) : Prop where
 sub : Sub σ τ
 dom : ∀ i L, τ i = some L → σ i = some L ∨ (nx ≤ i ∧ i < nx')
 le : nx ≤ nx'
 os : w'.os = w.os
 tape : w'.tape = w.tape
 output : w'.output = w.output
 size : w.heap.size ≤ w'.heap.size
 keep : ∀ k, k < w.heap.size → (∀ i b z, hp.get i = some b → σ i = some (k, z) → b.wr = false) → w'.heap[k]? = w.heap[k]?
 own : ∀ i b k z, hp'.get i = some b → τ i = some (k, z) → (∃ j c z', hp.get j = some c ∧ σ j = some (k, z') ∧ (b.wr = true → c.wr = true)) ∨ w.heap.size ≤ k
theorem Ext.refl (σ : Sg) (hp : Tr Blk) (nx : Nat) (w : World) : Ext σ σ hp hp nx nx w w :=
 ⟨.refl σ, fun _ _ h => .inl h, Nat.le_refl _, rfl, rfl, rfl, Nat.le_refl _, fun _ _ _ => rfl, fun i b k z hb hs => .inl ⟨i, b, z, hb, hs, id⟩⟩
theorem Ext.trans {σ τ υ : Sg} {hp hp' hp'' : Tr Blk} {nx nx' nx'' : Nat} {w w' w'' : World} (h : Ext σ τ hp hp' nx nx' w w') (k : Ext τ υ hp' hp'' nx' nx'' w' w'') :
  Ext σ υ hp hp'' nx nx'' w w'' where
 sub := h.sub.trans k.sub
 dom := fun i L hi => by
  rcases k.dom i L hi with h1 | ⟨h1, h2⟩
  ·rcases h.dom i L h1 with h3 | ⟨h3, h4⟩
   ·exact .inl h3
   ·exact .inr ⟨h3, Nat.lt_of_lt_of_le h4 k.le⟩
  ·exact .inr ⟨Nat.le_trans h.le h1, h2⟩
 le := Nat.le_trans h.le k.le
 os := k.os.trans h.os
 tape := k.tape.trans h.tape
 output := k.output.trans h.output
 size := Nat.le_trans h.size k.size
 keep := fun b hb hn => by
  rw [k.keep b (Nat.lt_of_lt_of_le hb h.size) ?_, h.keep b hb hn]
  intro i c z hc hs
  cases hw : c.wr with
  | false => rfl
  | true =>
   rcases h.own i c b z hc hs with ⟨j, d, z', hd, hj, himp⟩ | hge
   ·have := hn j d z' hd hj; rw [himp hw] at this; cases this
   ·omega
 own := fun i b b' z hb hs => by
  rcases k.own i b b' z hb hs with ⟨j, c, z', hc, hj, himp⟩ | hge
  ·rcases h.own j c b' z' hc hj with ⟨j', c', z'', hc', hj', himp'⟩ | hge
   ·exact .inl ⟨j', c', z'', hc', hj', fun e => himp' (himp e)⟩
   ·exact .inr hge
  ·exact .inr (Nat.le_trans h.size hge)
theorem Ext.below {B G : Nat} {σ τ : Sg} {hp hp' : Tr Blk} {nx nx' : Nat} {w w' : World} (h : Ext σ τ hp hp' nx nx' w w') (hr : Rel B G σ hp w) (hB : B ≤ w.heap.size) : RowKit.Below B w w' where
 os := h.os
 tape := h.tape
 output := h.output
 size := h.size
 block := fun k hk => h.keep k (Nat.lt_of_lt_of_le hk hB) fun i b z hb hs => by
  cases hw : b.wr with
  | false => rfl
  | true =>
   obtain ⟨k', z', o, hs', _, _, hge⟩ := hr.blk i b hb
   rw [hs] at hs'; simp at hs'; have := hge hw; omega
theorem Rel.drawn {B G : Nat} {σ : Sg} {hp : Tr Blk} {w : World} (h : Rel B G σ hp w) (n : Nat) : Rel B G σ hp { w with drawn := n } := ⟨h.blk, h.inj, h.gl⟩
theorem Ext.drawn (σ : Sg) (hp : Tr Blk) (nx : Nat) (w : World) (n : Nat) : Ext σ σ hp hp nx nx w { w with drawn := n } :=
 ⟨.refl σ, fun _ _ h => .inl h, Nat.le_refl _, rfl, rfl, rfl, Nat.le_refl _, fun _ _ _ => rfl, fun i b k z hb hs => .inl ⟨i, b, z, hb, hs, id⟩⟩
theorem Rel.set {B G : Nat} {σ : Sg} {hp : Tr Blk} {w w' : World} {id k z : Nat} {b b' : Blk} {o' : Obj} (h : Rel B G σ hp w) (hb : hp.get id = some b) (hw : b.wr = true) (hs : σ id = some (k, z))
  (hk : w'.heap[k]? = some o') (hr : Ro σ z b' o') (hw' : b'.wr = true) (hsz : w'.heap.size = w.heap.size) (hoth : ∀ j, j ≠ k → w'.heap[j]? = w.heap[j]?)
  (hos : w'.os = w.os) (htape : w'.tape = w.tape) (hout : w'.output = w.output) (nx : Nat) :
  Rel B G σ (hp.set id (some b')) w' ∧ Ext σ σ hp (hp.set id (some b')) nx nx w w' := by
 obtain ⟨k0, z0, o0, hs0, ho0, hr0, hB0⟩ := h.blk id b hb
 rw [hs] at hs0; simp at hs0; obtain ⟨rfl, rfl⟩ := hs0
 have hne : ∀ j c kj zj, j ≠ id → hp.get j = some c → σ j = some (kj, zj) → kj ≠ k := by
  intro j c kj zj hj hc hsj e; subst e; exact hj (h.inj j id c b kj zj z hc hb hsj hs)
 refine ⟨⟨?_, ?_, h.gl⟩, ⟨.refl σ, fun _ _ h => .inl h, Nat.le_refl _, hos, htape, hout, Nat.le_of_eq hsz.symm, ?_, ?_⟩⟩
 ·intro j c hc
  by_cases hj : j = id
  ·subst hj; rw [Tr.get_set_same] at hc; cases hc
   exact ⟨k, z, o', hs, hk, hr, fun _ => hB0 hw⟩
  ·rw [Tr.get_set_other _ _ hj] at hc
   obtain ⟨kj, zj, oj, hsj, hoj, hrj, hBj⟩ := h.blk j c hc
   exact ⟨kj, zj, oj, hsj, by rw [hoth _ (hne j c kj zj hj hc hsj)]; exact hoj, hrj, hBj⟩
 ·intro i j c d kk zi zj hc hd hsi hsj
  have gi : ∃ c', hp.get i = some c' := by
   by_cases hi : i = id
   ·exact ⟨b, hi ▸ hb⟩
   ·rw [Tr.get_set_other _ _ hi] at hc; exact ⟨c, hc⟩
  have gj : ∃ d', hp.get j = some d' := by
   by_cases hj : j = id
   ·exact ⟨b, hj ▸ hb⟩
   ·rw [Tr.get_set_other _ _ hj] at hd; exact ⟨d, hd⟩
  obtain ⟨c', hc'⟩ := gi; obtain ⟨d', hd'⟩ := gj
  exact h.inj i j c' d' kk zi zj hc' hd' hsi hsj
 ·intro j _ hn
  refine hoth j fun e => ?_
  subst e
  have := hn id b z hb hs; rw [hw] at this; cases this
 ·intro i c kk zz hc hsi
  by_cases hi : i = id
  ·subst hi; exact .inl ⟨i, b, zz, hb, hsi, fun _ => hw⟩
  ·rw [Tr.get_set_other _ _ hi] at hc; exact .inl ⟨i, c, zz, hc, hsi, fun e => e⟩
def Sg.put (σ : Sg) (id : Nat) (L : Nat × Nat) : Sg := fun i => if i = id then some L else σ i
theorem Sg.put_same (σ : Sg) (id : Nat) (L : Nat × Nat) : σ.put id L id = some L := by simp [Sg.put]
theorem Sg.put_other (σ : Sg) {id i : Nat} (L : Nat × Nat) (h : i ≠ id) : σ.put id L i = σ i := by simp [Sg.put, h]
theorem Sub.put {σ : Sg} {id : Nat} (L : Nat × Nat) (h : σ id = none) : Sub σ (σ.put id L) := fun i M hi => by
 by_cases e : i = id
 ·subst e; rw [h] at hi; cases hi
 ·rw [Sg.put_other _ _ e]; exact hi
theorem Rel.new {B G : Nat} {σ : Sg} {hp : Tr Blk} {w : World} {nx z : Nat} {b : Blk} {o : Obj} (h : Rel B G σ hp w) (hB : B ≤ w.heap.size) (hfr : σ nx = none)
  (hr : Ro (σ.put nx (w.heap.size, z)) z b o) {w' : World} (hheap : w'.heap = w.heap.push o) (hos : w'.os = w.os) (htape : w'.tape = w.tape) (hout : w'.output = w.output) :
  Rel B G (σ.put nx (w.heap.size, z)) (hp.set nx (some b)) w' ∧ Ext σ (σ.put nx (w.heap.size, z)) hp (hp.set nx (some b)) nx (nx + 1) w w' := by
 have hsub : Sub σ (σ.put nx (w.heap.size, z)) := Sub.put _ hfr
 have hnone : ∀ j c, hp.get j = some c → j ≠ nx := fun j c hc e => by
  subst e; obtain ⟨k, z, o, hs, _⟩ := h.blk j c hc; rw [hfr] at hs; cases hs
 have hlt : ∀ j c k z, hp.get j = some c → σ j = some (k, z) → k < w.heap.size := fun j c k z hc hs => by
  obtain ⟨k', z', o', hs', ho', _⟩ := h.blk j c hc
  rw [hs] at hs'; simp at hs'; obtain ⟨rfl, rfl⟩ := hs'
  exact (Array.getElem?_eq_some_iff.1 ho').1
 refine ⟨⟨?_, ?_, fun g hg => let ⟨z, hz⟩ := h.gl g hg; ⟨z, hsub _ _ hz⟩⟩, ⟨hsub, ?_, Nat.le_succ _, hos, htape, hout, by simp [hheap], ?_, ?_⟩⟩
 ·intro j c hc
  by_cases hj : j = nx
  ·subst hj; rw [Tr.get_set_same] at hc; cases hc
   exact ⟨w.heap.size, z, o, Sg.put_same _ _ _, by simp [hheap], hr, fun _ => hB⟩
  ·rw [Tr.get_set_other _ _ hj] at hc
   obtain ⟨kj, zj, oj, hsj, hoj, hrj, hBj⟩ := h.blk j c hc
   have := hlt j c kj zj hc hsj
   exact ⟨kj, zj, oj, hsub _ _ hsj, by rw [hheap, Array.getElem?_push, if_neg (by omega)]; exact hoj, hrj.mono hsub, hBj⟩
 ·intro i j c d k zi zj hc hd hsi hsj
  by_cases hi : i = nx
  ·by_cases hj : j = nx
   ·rw [hi, hj]
   ·exfalso
    subst hi; rw [Sg.put_same] at hsi; simp at hsi
    rw [Tr.get_set_other _ _ hj] at hd; rw [Sg.put_other _ _ hj] at hsj
    have := hlt j d k zj hd hsj; omega
  ·rw [Tr.get_set_other _ _ hi] at hc; rw [Sg.put_other _ _ hi] at hsi
   by_cases hj : j = nx
   ·exfalso
    subst hj; rw [Sg.put_same] at hsj; simp at hsj
    have := hlt i c k zi hc hsi; omega
   ·rw [Tr.get_set_other _ _ hj] at hd; rw [Sg.put_other _ _ hj] at hsj
    exact h.inj i j c d k zi zj hc hd hsi hsj
 ·intro i L hi
  by_cases e : i = nx
  ·exact .inr ⟨by omega, by omega⟩
  ·rw [Sg.put_other _ _ e] at hi; exact .inl hi
 ·intro k hk _
  rw [hheap, Array.getElem?_push, if_neg (by omega)]
 ·intro i c k zz hc hsi
  by_cases hi : i = nx
  ·subst hi; rw [Sg.put_same] at hsi; simp at hsi; exact .inr (by omega)
  ·rw [Tr.get_set_other _ _ hi] at hc; rw [Sg.put_other _ _ hi] at hsi; exact .inl ⟨i, c, zz, hc, hsi, fun e => e⟩
theorem Rel.rename {B G : Nat} {σ : Sg} {hp : Tr Blk} {w w' : World} {id k z nx : Nat} {b b' : Blk} {o' : Obj} (h : Rel B G σ hp w) (hb : hp.get id = some b) (hw : b.wr = true) (hs : σ id = some (k, z)) (hfr : σ nx = none)
  (hk : w'.heap[k]? = some o') (hr : Ro (σ.put nx (k, z)) z b' o') (hsz : w'.heap.size = w.heap.size) (hoth : ∀ j, j ≠ k → w'.heap[j]? = w.heap[j]?)
  (hos : w'.os = w.os) (htape : w'.tape = w.tape) (hout : w'.output = w.output) :
  Rel B G (σ.put nx (k, z)) ((hp.set id none).set nx (some b')) w' ∧ Ext σ (σ.put nx (k, z)) hp ((hp.set id none).set nx (some b')) nx (nx + 1) w w' := by
 have hsub : Sub σ (σ.put nx (k, z)) := Sub.put _ hfr
 obtain ⟨k0, z0, o0, hs0, ho0, hr0, hB0⟩ := h.blk id b hb
 rw [hs] at hs0; simp at hs0; obtain ⟨rfl, rfl⟩ := hs0
 have hne : ∀ j c kj zj, j ≠ id → hp.get j = some c → σ j = some (kj, zj) → kj ≠ k := by
  intro j c kj zj hj hc hsj e; subst e; exact hj (h.inj j id c b kj zj z hc hb hsj hs)
 have hget : ∀ j c, j ≠ nx → ((hp.set id none).set nx (some b')).get j = some c → j ≠ id ∧ hp.get j = some c := by
  intro j c hj hc
  rw [Tr.get_set_other _ _ hj] at hc
  by_cases e : j = id
  ·subst e; rw [Tr.get_set_same] at hc; cases hc
  ·rw [Tr.get_set_other _ _ e] at hc; exact ⟨e, hc⟩
 refine ⟨⟨?_, ?_, fun g hg => let ⟨z, hz⟩ := h.gl g hg; ⟨z, hsub _ _ hz⟩⟩, ⟨hsub, ?_, Nat.le_succ _, hos, htape, hout, Nat.le_of_eq hsz.symm, ?_, ?_⟩⟩
 ·intro j c hc
  by_cases hj : j = nx
  ·subst hj; rw [Tr.get_set_same] at hc; cases hc
   exact ⟨k, z, o', Sg.put_same _ _ _, hk, hr, fun _ => hB0 hw⟩
  ·obtain ⟨hji, hc⟩ := hget j c hj hc
   obtain ⟨kj, zj, oj, hsj, hoj, hrj, hBj⟩ := h.blk j c hc
   exact ⟨kj, zj, oj, hsub _ _ hsj, by rw [hoth _ (hne j c kj zj hji hc hsj)]; exact hoj, hrj.mono hsub, hBj⟩
 ·intro i j c d kk zi zj hc hd hsi hsj
  by_cases hi : i = nx
  ·by_cases hj : j = nx
   ·rw [hi, hj]
   ·exfalso
    obtain ⟨hji, hd⟩ := hget j d hj hd
    rw [hi, Sg.put_same] at hsi; simp at hsi
    rw [Sg.put_other _ _ hj] at hsj
    exact hne j d kk zj hji hd hsj hsi.1.symm
  ·obtain ⟨hii, hc⟩ := hget i c hi hc
   rw [Sg.put_other _ _ hi] at hsi
   by_cases hj : j = nx
   ·exfalso
    rw [hj, Sg.put_same] at hsj; simp at hsj
    exact hne i c kk zi hii hc hsi hsj.1.symm
   ·obtain ⟨hjj, hd⟩ := hget j d hj hd
    rw [Sg.put_other _ _ hj] at hsj
    exact h.inj i j c d kk zi zj hc hd hsi hsj
 ·intro i L hi
  by_cases e : i = nx
  ·exact .inr ⟨by omega, by omega⟩
  ·rw [Sg.put_other _ _ e] at hi; exact .inl hi
 ·intro j _ hn
  refine hoth j fun e => ?_
  subst e
  have := hn id b z hb hs; rw [hw] at this; cases this
 ·intro i c kk zz hc hsi
  by_cases hi : i = nx
  ·rw [hi, Sg.put_same] at hsi; simp at hsi; obtain ⟨rfl, rfl⟩ := hsi
   exact .inl ⟨id, b, z, hb, hs, fun _ => hw⟩
  ·obtain ⟨_, hc⟩ := hget i c hi hc
   rw [Sg.put_other _ _ hi] at hsi; exact .inl ⟨i, c, zz, hc, hsi, fun e => e⟩
theorem Rel.drop {B G : Nat} {σ : Sg} {hp : Tr Blk} {w : World} (h : Rel B G σ hp w) (id nx : Nat) : Rel B G σ (hp.set id none) w ∧ Ext σ σ hp (hp.set id none) nx nx w w := by
 have hg : ∀ j c, (hp.set id none).get j = some c → hp.get j = some c := fun j c hc => by
  by_cases hj : j = id
  ·subst hj; rw [Tr.get_set_same] at hc; cases hc
  ·rwa [Tr.get_set_other _ _ hj] at hc
 exact ⟨⟨fun j c hc => h.blk j c (hg j c hc), fun i j c d k zi zj hc hd => h.inj i j c d k zi zj (hg i c hc) (hg j d hd), h.gl⟩,
  ⟨.refl σ, fun _ _ h => .inl h, Nat.le_refl _, rfl, rfl, rfl, Nat.le_refl _, fun _ _ _ => rfl, fun i b k z hb hs => .inl ⟨i, b, z, hg i b hb, hs, fun e => e⟩⟩⟩
end Go.Ex
set_option linter.unusedVariables false
set_option linter.unusedSimpArgs false
namespace Go.Ex

theorem cond_eq_some {α : Type} {b : Bool} {x y : Option α} {r : α} (h : (bif b then x else y) = some r) : (b = true ∧ x = some r) ∨ (b = false ∧ y = some r) := by
 cases b
 ·exact .inr ⟨rfl, h⟩
 ·exact .inl ⟨rfl, h⟩
theorem beq_iff {a b : Nat} : Nat.beq a b = true ↔ a = b := ⟨Nat.eq_of_beq_eq_true, beq_t⟩
theorem beq_iff_f {a b : Nat} : Nat.beq a b = false ↔ a ≠ b := ⟨fun h e => (by rw [beq_t e] at h; cases h), beq_f⟩
theorem blt_iff {a b : Nat} : Nat.blt a b = true ↔ a < b := by simp [Nat.blt, Nat.succ_le_iff]
theorem blt_iff_f {a b : Nat} : Nat.blt a b = false ↔ b ≤ a := by
 cases h : Nat.blt a b
 ·simp only [true_iff]; rcases Nat.lt_or_ge a b with h1 | h1
  ·rw [blt_iff.2 h1] at h; cases h
  ·exact h1
 ·simp only [false_iff, Bool.true_eq_false]; have := blt_iff.1 h; omega
theorem ble_iff {a b : Nat} : Nat.ble a b = true ↔ a ≤ b := by simp
theorem ble_iff_f {a b : Nat} : Nat.ble a b = false ↔ b < a := by
 cases h : Nat.ble a b
 ·simp only [true_iff]; rcases Nat.lt_or_ge b a with h1 | h1
  ·exact h1
  ·rw [ble_iff.2 h1] at h; cases h
 ·simp only [false_iff, Bool.true_eq_false]; have := ble_iff.1 h; omega
theorem hasN_iff {x : Nat} : ∀ {l : List Nat}, hasN x l = true ↔ x ∈ l := by
 intro l
 induction l with
 | nil => simp [hasN]
 | cons y l ih =>
  simp only [hasN, List.mem_cons]
  by_cases h : x = y
  ·simp [beq_t h, h]
  ·simp [beq_f h, h, ih]
theorem uniq_mem {x : Nat} : ∀ {l : List Nat}, x ∈ uniq l ↔ x ∈ l := by
 intro l
 induction l with
 | nil => exact Iff.rfl
 | cons y l ih =>
  simp only [uniq, addU]
  cases hq : hasN y (uniq l) with
  | true =>
   simp only [cond_true, List.mem_cons, ih]
   exact ⟨.inr, fun h => by rcases h with rfl | h; exact ih.1 (hasN_iff.1 hq); exact h⟩
  | false => simp only [cond_false, List.mem_cons, ih]
theorem takeL_spec : ∀ (n : Nat) (l r : List AV), takeL n l = some r → n ≤ l.length ∧ r = l.take n := by
 intro n
 induction n with
 | zero => intro l r h; simp [takeL_z, takeL_n, takeL_c] at h; subst h; simp
 | succ n ih =>
  intro l r h
  cases l with
  | nil => simp [takeL_z, takeL_n, takeL_c] at h
  | cons x l =>
   simp only [takeL_z, takeL_n, takeL_c] at h
   split at h
   ·rename_i r' hr'
    simp only [Option.some.injEq] at h; subst h
    obtain ⟨h1, h2⟩ := ih l r' hr'
    exact ⟨by simpa using h1, by simp [h2]⟩
   ·cases h
theorem dropL_eq : ∀ (n : Nat) (l : List AV), dropL n l = l.drop n := by
 intro n
 induction n with
 | zero => intro l; cases l <;> rfl
 | succ n ih => intro l; cases l with
  | nil => rfl
  | cons x l => simp [dropL_z, dropL_n, dropL_c, ih]
theorem sub_spec {l r : List AV} {off n : Nat} (h : sub l off n = some r) : r.length = n ∧ (n = 0 ∨ off + n ≤ l.length) ∧ r = (l.drop off).take n := by
 obtain ⟨h1, h2⟩ := takeL_spec _ _ _ h
 rw [dropL_eq] at h1 h2
 simp at h1
 refine ⟨by rw [h2]; simp; omega, by omega, h2⟩
theorem sub_get {l r : List AV} {off n : Nat} (h : sub l off n = some r) (i : Nat) (hi : i < n) : r[i]? = l[off + i]? := by
 obtain ⟨_, _, h2⟩ := sub_spec h
 rw [h2, List.getElem?_take, if_pos hi, List.getElem?_drop]
theorem putF_spec : ∀ (xs l r : List AV), putF l xs = some r → r.length = l.length ∧ xs.length ≤ l.length ∧ ∀ i : Nat, r[i]? = if i < xs.length then xs[i]? else l[i]? := by
 intro xs
 induction xs with
 | nil => intro l r h; cases l <;> (simp [putF_z, putF_n, putF_c] at h; subst h; simp)
 | cons x xs ih =>
  intro l r h
  cases l with
  | nil => simp [putF_z, putF_n, putF_c] at h
  | cons y l =>
   simp only [putF_z, putF_n, putF_c] at h
   split at h
   ·rename_i r' hr'
    simp only [Option.some.injEq] at h; subst h
    obtain ⟨h1, h2, h3⟩ := ih l r' hr'
    refine ⟨by simp [h1], by simpa using h2, fun i => ?_⟩
    cases i with
    | zero => simp
    | succ i => simp [h3 i]
   ·cases h
theorem putL_spec : ∀ (n : Nat) (l xs r : List AV), putL n l xs = some r → r.length = l.length ∧ (xs = [] ∨ n + xs.length ≤ l.length) ∧ ∀ i : Nat, r[i]? = if n ≤ i ∧ i < n + xs.length then xs[i - n]? else l[i]? := by
 intro n
 induction n with
 | zero =>
  intro l xs r h
  obtain ⟨h1, h2, h3⟩ := putF_spec xs l r (by simpa [putL_z, putL_nn, putL_nc, putL_c] using h)
  exact ⟨h1, .inr (by omega), fun i => by simp [h3 i]⟩
 | succ n ih =>
  intro l xs r h
  cases l with
  | nil =>
   cases xs with
   | nil => simp [putL_z, putL_nn, putL_nc, putL_c] at h; subst h; simp
   | cons x xs => simp [putL_z, putL_nn, putL_nc, putL_c] at h
  | cons y l =>
   simp only [putL_z, putL_nn, putL_nc, putL_c] at h
   split at h
   ·rename_i r' hr'
    simp only [Option.some.injEq] at h; subst h
    obtain ⟨h1, h2, h3⟩ := ih l xs r' hr'
    refine ⟨by simp [h1], by rcases h2 with h2 | h2; exact .inl h2; exact .inr (by simp; omega), fun i => ?_⟩
    cases i with
    | zero => simp
    | succ i =>
     simp only [List.getElem?_cons_succ, h3 i]
     by_cases hc : n ≤ i ∧ i < n + xs.length
     ·rw [if_pos hc, if_pos (by omega)]; congr 1; omega
     ·rw [if_neg hc, if_neg (by omega)]
   ·cases h
theorem repl_length : ∀ (n : Nat) (z : List AV), (repl n z).length = n * z.length := by
 intro n z
 induction n with
 | zero => simp [repl_z, repl_c]
 | succ n ih => simp [repl_z, repl_c, ih, Nat.succ_mul]; omega
theorem addr_add (b off n : Nat) : (Addr.add ⟨b, off, none⟩ n) = ⟨b, off + n, none⟩ := by
 unfold Addr.add
 by_cases h : n = 0
 ·simp [h]
 ·simp [h]
section
variable {P : Program} {w : World}
theorem run_und {t : TypeId} {d : TypeDesc} (h : P.underlying t = some d) : (underlying t).run P w = .ok d w := by simp [underlying, h]
theorem run_info {t : TypeId} {i : TypeInfo} (h : P.info? t = some i) : (typeInfo t).run P w = .ok i w := by simp [typeInfo, h]
theorem run_size {t : TypeId} {n : Nat} (h : sizeB P t = some n) : (sizeOf t).run P w = .ok n w := by
 unfold sizeB at h
 split at h
 ·rename_i i hi; simp at h; simp [sizeOf, run_info hi, h]
 ·cases h
theorem run_agg {t : TypeId} {b : Bool} (h : isAggB P t = some b) : (isAgg t).run P w = .ok b w := by
 unfold isAggB at h
 split at h
 ·rename_i hi; simp at h; simp [isAgg, run_und hi, h]
 ·rename_i hi; simp at h; simp [isAgg, run_und hi, h]
 ·rename_i d h1 h2 hi
  simp at h; subst h
  simp only [isAgg, Sem.run_bind, run_und hi, Result.andThen_ok]
  cases d <;> first | rfl | (exact absurd rfl (h1 _)) | (exact absurd rfl (h2 _ _))
 ·cases h
theorem cell_of {b : Nat} {c : Array Value} {t : TypeId} {fr : Nat × Nat} (h : w.heap[b]? = some (.cells c t fr)) (o : Nat) : w.cell? ⟨b, o, none⟩ = c[o]? := by
 simp [World.cell?, h]
theorem run_load_cell {b : Nat} {c : Array Value} {t : TypeId} {fr : Nat × Nat} (h : w.heap[b]? = some (.cells c t fr)) {o : Nat} {v : Value} (hv : c[o]? = some v) (m : Mode) :
  (load ⟨b, o, none⟩ m).run P w = .ok v w := by simp [run_load, cell_of h, hv]
theorem run_loadCellsFrom {b off : Nat} {c : Array Value} {t : TypeId} {fr : Nat × Nat} (h : w.heap[b]? = some (.cells c t fr)) :
  ∀ (n i : Nat) (acc : Array Value), off + i + n ≤ c.size → (loadCellsFrom ⟨b, off, none⟩ i n acc).run P w = .ok (acc ++ c.extract (off + i) (off + i + n)) w := by
 intro n
 induction n with
 | zero => intro i acc _; simp [loadCellsFrom]; omega
 | succ n ih =>
  intro i acc hle
  have hi : off + i < c.size := by omega
  simp only [loadCellsFrom, Sem.run_bind, addr_add]
  rw [run_load_cell h (v := c[off + i]) (by simp [hi])]
  simp only [Result.andThen_ok]
  rw [ih (i + 1) _ (by omega)]
  congr 1
  apply Array.ext'
  simp only [Array.toList_append, Array.toList_push, Array.toList_extract, List.extract_eq_take_drop, List.append_assoc]
  congr 1
  have h1 : off + i + (n + 1) - (off + i) = n + 1 := by omega
  have h2 : off + (i + 1) + n - (off + (i + 1)) = n := by omega
  rw [h1, h2, show off + (i + 1) = off + i + 1 from by omega]
  have hi' : off + i < c.toList.length := by simpa using hi
  rw [List.drop_eq_getElem_cons hi']
  simp
theorem run_loadCells {b off n : Nat} {c : Array Value} {t : TypeId} {fr : Nat × Nat} (h : w.heap[b]? = some (.cells c t fr)) (hle : n = 0 ∨ off + n ≤ c.size) :
  (loadCells ⟨b, off, none⟩ n).run P w = .ok ((c.toList.drop off).take n).toArray w := by
 unfold loadCells
 by_cases hn : n = 0
 ·subst hn; simp [loadCellsFrom]
 ·rw [run_loadCellsFrom h n 0 #[] (by omega)]
  congr 1
  apply Array.ext'
  simp [List.extract_eq_take_drop]
def RC (σ : Sg) (l : List AV) (c : Array Value) : Prop := (∀ (i : Nat) x, l[i]? = some x → ∃ v, c[i]? = some v ∧ Rv σ x v) ∧ (∀ (i : Nat) v, c[i]? = some v → oneC v = true)
theorem RC.sub {σ : Sg} {l : List AV} {c : Array Value} (h : RC σ l c) {off n : Nat} {r : List AV} (hs : Ex.sub l off n = some r) (hl : l.length ≤ c.size) :
  RL σ r ((c.toList.drop off).take n) ∧ (∀ u, u ∈ (c.toList.drop off).take n → oneC u = true) ∧ (n = 0 ∨ off + n ≤ c.size) := by
 obtain ⟨h1, h2, h3⟩ := sub_spec hs
 refine ⟨⟨?_, ?_⟩, ?_, by omega⟩
 ·rw [h1, List.length_take, List.length_drop, Array.length_toList]; omega
 ·intro i x v hx hv
  have hi : i < n := by rw [← h1]; exact (List.getElem?_eq_some_iff.1 hx).1
  rw [sub_get hs i hi] at hx
  obtain ⟨u, hu, hr⟩ := h.1 _ _ hx
  rw [List.getElem?_take, if_pos hi, List.getElem?_drop, Array.getElem?_toList] at hv
  rw [hu] at hv; cases hv; exact hr
 ·intro u hu
  obtain ⟨i, hi⟩ := List.mem_iff_getElem?.1 (List.mem_of_mem_drop (List.mem_of_mem_take hu))
  rw [Array.getElem?_toList] at hi
  exact h.2 i u hi
theorem run_loadVar {σ : Sg} {t : TypeId} {b off : Nat} {c : Array Value} {tt : TypeId} {fr : Nat × Nat} {l : List AV} {x : AV} (hh : w.heap[b]? = some (.cells c tt fr)) (hc : RC σ l c) (hl : l.length ≤ c.size)
  (hp : partA P t l off = some x) : ∃ v, (loadVar t ⟨b, off, none⟩).run P w = .ok v w ∧ Rv σ x v := by
 unfold partA at hp
 split at hp
 ·rename_i n ha hs
  split at hp
  ·rename_i r hr
   simp only [Option.some.injEq] at hp; subst hp
   obtain ⟨h1, h2, h3⟩ := hc.sub hr hl
   refine ⟨.agg ((c.toList.drop off).take n).toArray, ?_, .agg _ _ h1.1 h2 h1.2⟩
   simp only [loadVar, Sem.run_bind, run_agg ha, Result.andThen_ok, if_true, Sem.run_ite, run_size hs, run_loadCells hh h3]
   rfl
  ·cases hp
 ·rename_i n ha hs
  split at hp
  ·rename_i v rest hd
   simp only [Option.some.injEq] at hp; subst hp
   rw [dropL_eq] at hd
   have hx : l[off]? = some v := by
    have := congrArg (fun m => m[0]?) hd
    simpa [List.getElem?_drop] using this
   obtain ⟨u, hu, hr⟩ := hc.1 _ _ hx
   refine ⟨u, ?_, hr⟩
   simp only [loadVar, Sem.run_bind, run_agg ha, Result.andThen_ok, Bool.false_eq_true, if_false]
   exact run_load_cell hh hu _
  ·cases hp
 ·cases hp
theorem run_part {σ : Sg} {t : TypeId} {off : Nat} {l : List AV} {vs : List Value} {x : AV} (hl : RL σ l vs) (h1 : ∀ u, u ∈ vs → oneC u = true) (hp : partA P t l off = some x) :
  ∃ v, (part t vs.toArray off).run P w = .ok v w ∧ Rv σ x v := by
 have hc : RC σ l vs.toArray := ⟨fun i x hx => let ⟨v, hv, hr⟩ := hl.get hx; ⟨v, by simpa using hv, hr⟩, fun i v hv => h1 v (List.mem_of_getElem? (by simpa using hv))⟩
 have hle : l.length ≤ vs.toArray.size := by simp [hl.1]
 unfold partA at hp
 split at hp
 ·rename_i n ha hs
  split at hp
  ·rename_i r hr
   simp only [Option.some.injEq] at hp; subst hp
   obtain ⟨g1, g2, g3⟩ := hc.sub hr hle
   refine ⟨.agg ((vs.drop off).take n).toArray, ?_, .agg _ _ (by simpa using g1.1) (by simpa using g2) (by simpa using g1.2)⟩
   simp only [part, Sem.run_bind, run_agg ha, Result.andThen_ok, if_true, Sem.run_ite, run_size hs, Sem.run_pure]
   congr 2
   apply Array.ext'
   simp [List.extract_eq_take_drop]
  ·cases hp
 ·rename_i n ha hs
  split at hp
  ·rename_i v rest hd
   simp only [Option.some.injEq] at hp; subst hp
   rw [dropL_eq] at hd
   have hx : l[off]? = some v := by
    have := congrArg (fun m => m[0]?) hd
    simpa [List.getElem?_drop] using this
   obtain ⟨u, hu, hr⟩ := hc.1 _ _ hx
   refine ⟨u, ?_, hr⟩
   simp only [part, Sem.run_bind, run_agg ha, Result.andThen_ok, Bool.false_eq_true, if_false, Sem.run_ite, hu, Sem.run_pure]
  ·cases hp
 ·cases hp
theorem setCell_heap {b : Nat} {c : Array Value} {t : TypeId} {fr : Nat × Nat} (h : w.heap[b]? = some (.cells c t fr)) (o : Nat) (v : Value) :
  (w.setCell ⟨b, o, none⟩ v).heap[b]? = some (.cells (c.setIfInBounds o v) t fr) ∧ (∀ j, j ≠ b → (w.setCell ⟨b, o, none⟩ v).heap[j]? = w.heap[j]?) := by
 refine ⟨?_, fun j hj => RowKit.Below.heap_setCell _ _ _ _ hj⟩
 simp [World.setCell, Array.getElem?_modify, h]
theorem run_store_cell {b : Nat} {c : Array Value} {t : TypeId} {fr : Nat × Nat} (h : w.heap[b]? = some (.cells c t fr)) {o : Nat} {v : Value} (ho : o < c.size) (hf : ¬ (fr.1 ≤ o ∧ o < fr.2)) (hv : oneC v = true) (m : Mode) :
  (store ⟨b, o, none⟩ v m).run P w = .ok () (w.setCell ⟨b, o, none⟩ v) := by
 rw [run_store _ _ _ _ _ (by cases v <;> first | rfl | (simp [oneC] at hv))]
 rw [cell_of h]
 simp only [Array.getElem?_eq_getElem ho]
 have : w.frozen? ⟨b, o, none⟩ = false := by
  obtain ⟨lo, hi⟩ := fr
  simp only [World.frozen?, h]
  simp at hf ⊢
  exact hf
 simp [this]
theorem run_storeCells {b : Nat} {t : TypeId} {fr : Nat × Nat} : ∀ (vs : List Value) (w : World) (c : Array Value) (off i : Nat), w.heap[b]? = some (.cells c t fr) → (vs = [] ∨ off + i + vs.length ≤ c.size) →
  (∀ j, j < c.size → ¬ (fr.1 ≤ j ∧ j < fr.2)) → (∀ u, u ∈ vs → oneC u = true) →
  ∃ w' c', (storeCells ⟨b, off, none⟩ vs i).run P w = .ok () w' ∧ w'.heap[b]? = some (.cells c' t fr) ∧ c'.size = c.size ∧ (∀ j : Nat, c'[j]? = if off + i ≤ j ∧ j < off + i + vs.length then vs[j - (off + i)]? else c[j]?) ∧
   (∀ j, j ≠ b → w'.heap[j]? = w.heap[j]?) ∧ w'.heap.size = w.heap.size ∧ w'.os = w.os ∧ w'.tape = w.tape ∧ w'.output = w.output := by
 intro vs
 induction vs with
 | nil =>
  intro w c off i h _ _ _
  exact ⟨w, c, by simp [storeCells], h, rfl, fun j => by rw [if_neg (by intro e; simp only [List.length_nil] at e; omega)], fun _ _ => rfl, rfl, rfl, rfl, rfl⟩
 | cons v vs ih =>
  intro w c off i h hle hf h1
  have hle' : off + i + (vs.length + 1) ≤ c.size := by
   rcases hle with e | e
   ·cases e
   ·simpa using e
  have hs := run_store_cell (P := P) h (o := off + i) (v := v) (by omega) (hf _ (by omega)) (h1 v (by simp)) .plain
  obtain ⟨g1, g2⟩ := setCell_heap h (off + i) v
  obtain ⟨w', c', r1, r2, r3, r4, r5, r6, r7, r8, r9⟩ := ih (w.setCell ⟨b, off + i, none⟩ v) (c.setIfInBounds (off + i) v) off (i + 1) g1 (.inr (by simp; omega)) (by simpa using hf) (fun u hu => h1 u (by simp [hu]))
  refine ⟨w', c', ?_, r2, by simpa using r3, fun j => ?_, fun j hj => (r5 j hj).trans (g2 j hj), r6.trans (by simp [World.setCell]), r7, r8, r9⟩
  ·simp only [storeCells, addr_add, Sem.run_bind, hs, Result.andThen_ok]; exact r1
  ·rw [r4 j]
   by_cases e1 : off + (i + 1) ≤ j ∧ j < off + (i + 1) + vs.length
   ·rw [if_pos e1, if_pos (by simp; omega)]
    rw [show j - (off + i) = (j - (off + (i + 1))) + 1 from by omega]; simp
   ·rw [if_neg e1]
    by_cases e2 : j = off + i
    ·subst e2; rw [if_pos ⟨Nat.le_refl _, by simp only [List.length_cons]; omega⟩]; have hlt : off + i < c.size := by omega
     simp [hlt]
    ·rw [if_neg (by intro e; simp only [List.length_cons] at e; omega), Array.getElem?_setIfInBounds_ne (by omega)]
end
end Go.Ex
set_option linter.unusedVariables false
set_option linter.unusedSimpArgs false
namespace Go.Ex

theorem fits_wrap {k : IntKind} {n : Int} (h : fits k n = true) : k.wrap n = n := by
 cases k <;> cases n <;> simp [fits, blt_iff] at h <;> simp only [IntKind.wrap, IntKind.signed, IntKind.bits] <;> simp <;> omega
theorem wrapA_eq (k : IntKind) (n : Int) : wrapA k n = k.wrap n := by
 unfold wrapA
 cases h : fits k n
 ·rfl
 ·exact (fits_wrap h).symm
theorem eqI_eq (a b : Int) : eqI a b = (a == b) := by
 cases a <;> cases b <;> simp only [eqI]
 ·rename_i a b
  by_cases h : a = b
  ·subst h; simp
  ·rw [beq_f h]; simp; omega
 ·symm; simp
 ·symm; simp
 ·rename_i a b
  by_cases h : a = b
  ·subst h; simp
  ·rw [beq_f h]; symm; simp; exact h
theorem ltI_eq (a b : Int) : ltI a b = decide (a < b) := by
 cases a <;> cases b <;> simp only [ltI]
 ·rename_i a b
  by_cases h : a < b
  ·rw [blt_iff.2 h]; simp; omega
  ·rw [blt_iff_f.2 (by omega)]; simp; omega
 ·symm; simp; omega
 ·symm; simp; omega
 ·rename_i a b
  by_cases h : b < a
  ·rw [blt_iff.2 h]; symm; simp; omega
  ·rw [blt_iff_f.2 (by omega)]; symm; simp; omega
theorem eqK_iff {a b : IntKind} (h : eqK a b = true) : a = b := by cases a <;> cases b <;> first | rfl | (simp [eqK] at h)
theorem ofBA_length (s : ByteArray) : (ofBA s).length = s.size := by
 show (s.data.toList.map UInt8.toNat).length = s.data.size
 simp
theorem map_toNat_inj : ∀ {a b : List UInt8}, a.map UInt8.toNat = b.map UInt8.toNat → a = b := by
 intro a
 induction a with
 | nil => intro b h; cases b <;> first | rfl | (simp at h)
 | cons x a ih =>
  intro b h
  cases b with
  | nil => simp at h
  | cons y b =>
   simp only [List.map_cons, List.cons.injEq] at h
   rw [UInt8.toNat_inj.1 h.1, ih h.2]
theorem ofBA_inj {s t : ByteArray} (h : ofBA s = ofBA t) : s = t := by
 cases s with | mk a => cases t with | mk b =>
 have : a.toList = b.toList := map_toNat_inj h
 rw [Array.ext' this]
theorem ofBA_append (s t : ByteArray) : ofBA (s ++ t) = ofBA s ++ ofBA t := by simp [ofBA]
theorem eqS_eq : ∀ (a b : List Nat), eqS a b = decide (a = b) := by
 intro a
 induction a with
 | nil => intro b; cases b <;> simp [eqS_nn, eqS_nc, eqS_cn, eqS_cc]
 | cons x a ih =>
  intro b
  cases b with
  | nil => simp [eqS_nn, eqS_nc, eqS_cn, eqS_cc]
  | cons y b =>
   simp only [eqS_nn, eqS_nc, eqS_cn, eqS_cc, ih]
   by_cases h : x = y
   ·subst h; simp [beq_t]
   ·rw [beq_f h]; simp [h]
theorem eqS_run (s t : ByteArray) : (s.toList == t.toList) = eqS (ofBA s) (ofBA t) := by
 rw [eqS_eq, ByteArray.toList_eq, ByteArray.toList_eq]
 by_cases h : s.data.toList = t.data.toList
 ·simp [ofBA, h]
 ·have : ofBA s ≠ ofBA t := fun e => h (map_toNat_inj e)
  rw [show (s.data.toList == t.data.toList) = false from by simpa using h]; simp [this]
theorem ltS_map : ∀ (a b : List UInt8), ltS (a.map UInt8.toNat) (b.map UInt8.toNat) = Op.bytesLess a b := by
 intro a
 induction a with
 | nil => intro b; cases b <;> rfl
 | cons x a ih =>
  intro b
  cases b with
  | nil => rfl
  | cons y b =>
   simp only [List.map_cons, ltS_n, ltS_nc, ltS_cc, Op.bytesLess, ih]
   by_cases h : x = y
   ·subst h; simp [beq_t]
   ·have h' : x.toNat ≠ y.toNat := fun e => h (UInt8.toNat_inj.1 e)
    rw [beq_f h']
    simp only [cond_false]
    by_cases hl : x < y
    ·rw [blt_iff.2 (UInt8.lt_iff_toNat_lt.1 hl)]; simp [hl]
    ·have : ¬ x.toNat < y.toNat := fun e => hl (UInt8.lt_iff_toNat_lt.2 e)
     rw [blt_iff_f.2 (by omega)]; simp [hl, h]
theorem ltS_run (s t : ByteArray) : Op.bytesLess s.toList t.toList = ltS (ofBA s) (ofBA t) := by
 rw [ByteArray.toList_eq, ByteArray.toList_eq]; exact (ltS_map _ _).symm
section
variable {P : Program} {w : World} {σ : Sg}

def Runs (P : Program) (σ : Sg) (w : World) (s : Sem Value) (x : AV) : Prop := ∃ v, s.run P w = .ok v w ∧ Rv σ x v
theorem bits_ok {op : BinOp} {k : IntKind} {a b : Int} {x : AV} (h : bitsA op k a b = some x) : Runs P σ w (Op.intBits op k a b) x := by
 cases op <;> simp only [bitsA, Option.some.injEq] at h <;> first | (subst h; exact ⟨_, rfl, .int _ _⟩) | cases h
theorem nlt_dec (a b : Int) : (!decide (b < a)) = decide (a ≤ b) := by
 by_cases h : a ≤ b
 ·have : ¬ b < a := by omega
  simp [h, this]
 ·have : b < a := by omega
  simp [h, this]
theorem int_ok {op : BinOp} {k : IntKind} {t : TypeId} {a b : Int} {x : AV} (h : intA op k a b = some x) (h1 : op ≠ .shl) (h2 : op ≠ .shr) : Runs P σ w (binOp op t (.int k a) (.int k b)) x := by
 cases op <;> first | exact absurd rfl h1 | exact absurd rfl h2 | skip
 all_goals simp only [intA] at h
 case add => simp at h; subst h; rw [wrapA_eq]; exact ⟨.int k (k.wrap (a + b)), by simp [binOp, Op.intArith], .int _ _⟩
 case sub => simp at h; subst h; rw [wrapA_eq]; exact ⟨.int k (k.wrap (a - b)), by simp [binOp, Op.intArith], .int _ _⟩
 case mul => simp at h; subst h; rw [wrapA_eq]; exact ⟨.int k (k.wrap (a * b)), by simp [binOp, Op.intArith], .int _ _⟩
 case quo =>
  rcases cond_eq_some h with ⟨_, h⟩ | ⟨hb, h⟩
  ·cases h
  ·simp at h; subst h; rw [wrapA_eq]; rw [eqI_eq] at hb
   have hb' : b ≠ 0 := by simpa using hb
   exact ⟨.int k (k.wrap (a.tdiv b)), by simp [binOp, Op.intDiv, hb'], .int _ _⟩
 case rem =>
  rcases cond_eq_some h with ⟨_, h⟩ | ⟨hb, h⟩
  ·cases h
  ·simp at h; subst h; rw [eqI_eq] at hb
   have hb' : b ≠ 0 := by simpa using hb
   exact ⟨.int k (a.tmod b), by simp [binOp, Op.intDiv, hb'], .int _ _⟩
 case eql => simp at h; subst h; rw [eqI_eq]; exact ⟨.bool (a == b), by simp [binOp, Op.intCmp], .bool _⟩
 case neq => simp at h; subst h; rw [eqI_eq]; exact ⟨.bool (a != b), by simp [binOp, Op.intCmp], .bool _⟩
 case lss => simp at h; subst h; rw [ltI_eq]; exact ⟨.bool (decide (a < b)), by simp [binOp, Op.intCmp], .bool _⟩
 case leq => simp at h; subst h; rw [ltI_eq, nlt_dec]; exact ⟨.bool (decide (a ≤ b)), by simp [binOp, Op.intCmp], .bool _⟩
 case gtr => simp at h; subst h; rw [ltI_eq]; exact ⟨.bool (decide (a > b)), by simp [binOp, Op.intCmp], .bool _⟩
 case geq => simp at h; subst h; rw [ltI_eq, nlt_dec]; exact ⟨.bool (decide (a ≥ b)), by simp [binOp, Op.intCmp], .bool _⟩
 all_goals
  obtain ⟨v, hv, hr⟩ := bits_ok (P := P) (σ := σ) (w := w) h
  exact ⟨v, by simpa [binOp] using hv, hr⟩
theorem shift_ok {op : BinOp} {k yk : IntKind} {a b : Int} {x : AV} (h : shiftA op k a b = some x) : Runs P σ w (Op.shift op k a yk b) x := by
 cases b with
 | negSucc n => simp [shiftA] at h
 | ofNat n =>
  have hn : ¬ (Int.ofNat n < 0) := by simp
  cases op <;> simp only [shiftA, Option.some.injEq] at h <;> first
   | (subst h; exact ⟨_, by simp only [Op.shift, if_neg hn, Sem.run_pure]; rfl, .int _ _⟩)
   | cases h
theorem str_ok {op : BinOp} {t : TypeId} {s u : ByteArray} {x : AV} (h : strA op (ofBA s) (ofBA u) = some x) (h1 : op ≠ .shl) (h2 : op ≠ .shr) : Runs P σ w (binOp op t (.string s) (.string u)) x := by
 cases op <;> first | exact absurd rfl h1 | exact absurd rfl h2 | skip
 all_goals simp only [strA] at h
 case add =>
  rcases cond_eq_some h with ⟨hb, h⟩ | ⟨_, h⟩
  ·simp at h; subst h
   rw [blt_iff, ofBA_length, ofBA_length] at hb
   refine ⟨.string (s ++ u), ?_, by rw [← ofBA_append]; exact .str _⟩
   have : ¬ (((s.size + u.size : Nat) : Int) > IntKind.i64.max) := by simp [IntKind.max, IntKind.signed, IntKind.bits]; omega
   simp only [binOp, Op.stringOp, if_neg this, Sem.run_pure]
  ·cases h
 case eql => simp at h; subst h; exact ⟨.bool _, by simp only [binOp, Op.stringOp, Sem.run_pure, eqS_run], .bool _⟩
 case neq => simp at h; subst h; exact ⟨.bool _, by simp only [binOp, Op.stringOp, Sem.run_pure, eqS_run], .bool _⟩
 case lss => simp at h; subst h; exact ⟨.bool _, by simp only [binOp, Op.stringOp, Sem.run_pure, ltS_run], .bool _⟩
 case leq => simp at h; subst h; exact ⟨.bool (ltS (ofBA s) (ofBA u) || eqS (ofBA s) (ofBA u)), by simp only [binOp, Op.stringOp, Sem.run_pure, ltS_run, eqS_run], .bool _⟩
 case gtr => simp at h; subst h; exact ⟨.bool (!(ltS (ofBA s) (ofBA u) || eqS (ofBA s) (ofBA u))), by simp only [binOp, Op.stringOp, Sem.run_pure, ltS_run, eqS_run], by simpa using Rv.bool _⟩
 case geq => simp at h; subst h; exact ⟨.bool _, by simp only [binOp, Op.stringOp, Sem.run_pure, ltS_run], .bool _⟩
 all_goals cases h
theorem ba_beq (s u : ByteArray) : (s == u) = eqS (ofBA s) (ofBA u) := by
 rw [eqS_eq]
 cases s with | mk a => cases u with | mk b =>
 have h1 : ((ByteArray.mk a) == (ByteArray.mk b)) = (a == b) := rfl
 rw [h1]
 by_cases e : a = b
 ·subst e; simp
 ·have : ofBA ⟨a⟩ ≠ ofBA ⟨b⟩ := fun e' => e (by injection ofBA_inj e')
  simp [e, this]
theorem eqPtr_spec {e : TypeId} {i o i' o' : Nat} {r : Bool} (h : eqPtr P e i o i' o' = some r) : ∃ n, sizeB P e = some (n + 1) ∧ i' = i ∧ r = Nat.beq o o' := by
 unfold eqPtr at h
 rcases cond_eq_some h with ⟨hb, h'⟩ | ⟨_, h'⟩
 ·split at h'
  ·rename_i n hn
   simp only [Option.some.injEq] at h'
   exact ⟨n, hn, (beq_iff.1 hb).symm, h'.symm⟩
  ·cases h'
 ·cases h'
set_option maxHeartbeats 1000000 in
theorem eqP_ok {t : TypeId} {d : TypeDesc} {n : Nat} {x y : AV} {a b : Value} {r : Bool} (ht : P.underlying t = some d) (h : eqP P d x y = some r) (hx : Rv σ x a) (hy : Rv σ y b) :
  (Op.equalIn (n + 1) t a b).run P w = .ok r w := by
 unfold eqP at h
 split at h
 ·rw [hx.inv_bool, hy.inv_bool]; simp at h; subst h; simp [Op.equalIn, run_und ht]
 ·rw [hx.inv_int, hy.inv_int]
  rcases cond_eq_some h with ⟨hb, h⟩ | ⟨_, h⟩
  ·simp at h; subst h; rw [eqK_iff hb, eqI_eq]; simp [Op.equalIn, run_und ht]
  ·cases h
 ·obtain ⟨s, rfl, rfl⟩ := hx.inv_str; obtain ⟨u, rfl, rfl⟩ := hy.inv_str
  simp at h; subst h
  simp [Op.equalIn, run_und ht, ba_beq]
 ·rw [hx.inv_nilp, hy.inv_nilp]; simp at h; subst h; simp [Op.equalIn, run_und ht]
 ·rw [hx.inv_nilp]; obtain ⟨_, _, _, rfl⟩ := hy.inv_ptr; simp at h; subst h; simp [Op.equalIn, run_und ht]
 ·rw [hy.inv_nilp]; obtain ⟨_, _, _, rfl⟩ := hx.inv_ptr; simp at h; subst h; simp [Op.equalIn, run_und ht]
 ·rename_i e i o i' o'
  obtain ⟨b, z, h1, rfl⟩ := hx.inv_ptr
  obtain ⟨b', z', h2, rfl⟩ := hy.inv_ptr
  obtain ⟨n, hz, rfl, rfl⟩ := eqPtr_spec h
  rw [h1] at h2; simp only [Option.some.injEq, Prod.mk.injEq] at h2; obtain ⟨rfl, rfl⟩ := h2
  have hq : ((⟨b, o, none⟩ : Addr) == ⟨b, o', none⟩) = Nat.beq o o' := by
   by_cases ho : o = o'
   ·subst ho; rw [beq_t rfl]; simp
   ·rw [beq_f ho]; simpa using ho
  simp [Op.equalIn, run_und ht, run_size hz, sameAddr, hq]
 ·rw [hx.inv_nils, hy.inv_nils]; simp at h; subst h; simp [Op.equalIn, run_und ht]
 ·rw [hx.inv_nils]; obtain ⟨_, _, _, _, rfl⟩ := hy.inv_sl; simp at h; subst h; simp [Op.equalIn, run_und ht]
 ·rw [hy.inv_nils]; obtain ⟨_, _, _, _, rfl⟩ := hx.inv_sl; simp at h; subst h; simp [Op.equalIn, run_und ht]
 ·rw [hx.inv_nils]; obtain ⟨_, _, rfl⟩ := hy.inv_sle; simp at h; subst h; simp [Op.equalIn, run_und ht]
 ·rw [hy.inv_nils]; obtain ⟨_, _, rfl⟩ := hx.inv_sle; simp at h; subst h; simp [Op.equalIn, run_und ht]
 ·rw [hx.inv_nilm, hy.inv_nilm]; simp at h; subst h; simp [Op.equalIn, run_und ht]
 ·rw [hx.inv_nilm]; obtain ⟨_, _, _, rfl⟩ := hy.inv_map; simp at h; subst h; simp [Op.equalIn, run_und ht]
 ·rw [hy.inv_nilm]; obtain ⟨_, _, _, rfl⟩ := hx.inv_map; simp at h; subst h; simp [Op.equalIn, run_und ht]
 ·rw [hx.inv_nilf, hy.inv_nilf]; simp at h; subst h; simp [Op.equalIn, run_und ht]
 ·rw [hx.inv_nilf]; obtain ⟨_, _, _, _, rfl⟩ := hy.inv_fn; simp at h; subst h; simp [Op.equalIn, run_und ht]
 ·rw [hy.inv_nilf]; obtain ⟨_, _, _, _, rfl⟩ := hx.inv_fn; simp at h; subst h; simp [Op.equalIn, run_und ht]
 ·rw [hx.inv_nili, hy.inv_nili]; simp at h; subst h; simp [Op.equalIn, run_und ht]
 ·rw [hx.inv_nili]; obtain ⟨_, _, rfl⟩ := hy.inv_iface; simp at h; subst h; simp [Op.equalIn, run_und ht]
 ·rw [hy.inv_nili]; obtain ⟨_, _, rfl⟩ := hx.inv_iface; simp at h; subst h; simp [Op.equalIn, run_und ht]
 ·cases h
theorem eqV_ok {t : TypeId} {n : Nat} {x y : AV} {a b : Value} {r : Bool} (h : eqV P t x y = some r) (hx : Rv σ x a) (hy : Rv σ y b) :
  (Op.equalIn (n + 2) t a b).run P w = .ok r w := by
 unfold eqV at h
 split at h
 ·rename_i ms tx vx ty vy ht
  obtain ⟨ux, rx, rfl⟩ := hx.inv_iface; obtain ⟨uy, ry, rfl⟩ := hy.inv_iface
  by_cases e : tx = ty
  ·subst e
   simp only [beq_t, cond_true] at h
   split at h
   ·rename_i i d hi hd
    rcases cond_eq_some h with ⟨hc, h⟩ | ⟨_, h⟩
    ·have hk := eqP_ok (P := P) (w := w) (n := n) hd h rx ry
     rw [Op.equalIn.eq_2]
     generalize Op.equalIn (n + 1) = f at hk ⊢
     simpa [run_und ht, run_info hi, hc] using hk
    ·cases h
   ·cases h
  ·simp only [beq_f e, cond_false, Option.some.injEq] at h; subst h
   simp [Op.equalIn, run_und ht, e]
 ·rename_i hund _
  exact eqP_ok hund h hx hy
 ·cases h
def Kn (x : AV) : Prop := x ≠ .junk ∧ x ≠ .one
theorem eqGuard_ok {op : BinOp} {t : TypeId} {x y : Operand} {a b : AV} {va vb : Value} (h : guardA op x y a b = true) (hx : Rv σ a va) (hy : Rv σ b vb) (hab : ¬ ∃ l m, a = .agg l ∧ b = .agg m) (hj : Kn a) (hj' : Kn b) :
  (eqGuard op t x y va vb).run P w = .ok () w := by
 have key : (op = .eql ∨ op = .neq) → (∃ u, va = u ∧ vb = .nilIface ∧ va = .nilIface) → isConstB x || isConstB y = true := by
  rintro hop ⟨_, _, rfl, rfl⟩
  have ea : a = .nili := by cases hx <;> first | rfl | (exact absurd rfl hj.1) | (exact absurd rfl hj.2)
  have eb : b = .nili := by cases hy <;> first | rfl | (exact absurd rfl hj'.1) | (exact absurd rfl hj'.2)
  subst ea; subst eb
  rcases hop with rfl | rfl <;> simpa [guardA] using h
 have hagg : ¬ ((∃ l, va = .agg l) ∧ ∃ m, vb = .agg m) := by
  rintro ⟨⟨_, rfl⟩, ⟨_, rfl⟩⟩
  obtain ⟨l, hl⟩ : ∃ l, a = .agg l := by cases hx <;> first | exact ⟨_, rfl⟩ | (exact absurd rfl hj.1) | (exact absurd rfl hj.2)
  obtain ⟨m, hm⟩ : ∃ m, b = .agg m := by cases hy <;> first | exact ⟨_, rfl⟩ | (exact absurd rfl hj'.1) | (exact absurd rfl hj'.2)
  exact hab ⟨l, m, hl, hm⟩
 have hnil : op = .eql ∨ op = .neq → va = .nilIface → vb = .nilIface → (isConstB x || isConstB y) = true := fun h1 h2 h3 => by
  have := key h1 ⟨_, rfl, h3, h2⟩
  simpa using this
 clear key h hx hy hab hj hj'
 cases op with
 | eql =>
  cases va <;> cases vb <;> first
   | (exfalso; exact hagg ⟨⟨_, rfl⟩, ⟨_, rfl⟩⟩)
   | (have hk := hnil (.inl rfl) rfl rfl
      cases x <;> cases y <;> first | (simp [isConstB] at hk; done) | (simp [eqGuard]; done))
   | (simp [eqGuard]; done)
 | neq =>
  cases va <;> cases vb <;> first
   | (exfalso; exact hagg ⟨⟨_, rfl⟩, ⟨_, rfl⟩⟩)
   | (have hk := hnil (.inr rfl) rfl rfl
      cases x <;> cases y <;> first | (simp [isConstB] at hk; done) | (simp [eqGuard]; done))
   | (simp [eqGuard]; done)
 | _ => simp [eqGuard]
end
end Go.Ex
set_option linter.unusedVariables false
set_option linter.unusedSimpArgs false
namespace Go.Ex

section
variable {P : Program} {B G : Nat} {σ : Sg} {hp : Tr Blk} {nx : Nat} {w : World}

def OkV (P : Program) (B G : Nat) (σ : Sg) (hp : Tr Blk) (nx : Nat) (w : World) (s : Sem Value) (r : R) : Prop :=
 ∃ τ w' v, s.run P w = .ok v w' ∧ Rv τ r.v v ∧ Rel B G τ (app r.dl hp) w' ∧ Ext σ τ hp (app r.dl hp) nx r.nx w w'
def OkU (P : Program) (B G : Nat) (σ : Sg) (hp : Tr Blk) (nx : Nat) (w : World) (s : Sem Unit) (r : R) : Prop :=
 ∃ τ w', s.run P w = .ok () w' ∧ r.v = unit ∧ Rel B G τ (app r.dl hp) w' ∧ Ext σ τ hp (app r.dl hp) nx r.nx w w'
theorem OkV.pure (hr : Rel B G σ hp w) {s : Sem Value} {x : AV} (h : Runs P σ w s x) : OkV P B G σ hp nx w s ⟨x, [], nx⟩ :=
 let ⟨v, hv, hx⟩ := h; ⟨σ, w, v, hv, hx, hr, .refl σ hp nx w⟩
theorem rv_some {v : AV} {r : R} (h : rv nx v = some r) : r = ⟨v, [], nx⟩ := by simpa [rv, eq_comm] using h
theorem rvO_some {v : Option AV} {r : R} (h : rvO nx v = some r) : ∃ x, v = some x ∧ r = ⟨x, [], nx⟩ := by
 cases v with
 | none => simp [rvO] at h
 | some x => exact ⟨x, rfl, by simpa [rvO, eq_comm] using h⟩
theorem OkV.rv (hr : Rel B G σ hp w) {s : Sem Value} {x : AV} {r : R} (hx : Ex.rv nx x = some r) (h : Runs P σ w s x) : OkV P B G σ hp nx w s r := by
 rw [rv_some hx]; exact .pure hr h
theorem OkV.rvO (hr : Rel B G σ hp w) {s : Sem Value} {x : Option AV} {r : R} (hx : Ex.rvO nx x = some r) (h : ∀ y, x = some y → Runs P σ w s y) : OkV P B G σ hp nx w s r := by
 obtain ⟨y, hy, rfl⟩ := rvO_some hx; exact .pure hr (h y hy)
theorem Rel.cells (hr : Rel B G σ hp w) {id : Nat} {wr o : Bool} {tt : Option TypeId} {l : List AV} (h : hp.get id = some (.cells wr o tt l)) :
  ∃ k z c t fr, σ id = some (k, z) ∧ w.heap[k]? = some (.cells c t fr) ∧ c.size = z ∧ (o = false → l.length = c.size) ∧ l.length ≤ c.size ∧ (∀ i : Nat, (i < c.size ∨ o = false) → ¬ (fr.1 ≤ i ∧ i < fr.2)) ∧ RC σ l c ∧ (wr = true → B ≤ k) := by
 obtain ⟨k, z, ob, hs, hk, hro, hB⟩ := hr.blk id _ h
 cases hro with
 | cells _ _ _ _ c t fr _ hz ho hl hf h1 h => exact ⟨k, z, c, t, fr, hs, hk, hz, ho, hl, hf, ⟨h, h1⟩, hB⟩
theorem Rel.cellsT (hr : Rel B G σ hp w) {id : Nat} {wr o : Bool} {tt : Option TypeId} {l : List AV} (h : hp.get id = some (.cells wr o tt l)) {k z : Nat} (hs : σ id = some (k, z)) {c : Array Value} {t : TypeId} {fr : Nat × Nat} (hk : w.heap[k]? = some (.cells c t fr)) :
  ∀ a, tt = some a → t = a := by
 obtain ⟨k', z', ob, hs', hk', hro, hB⟩ := hr.blk id _ h
 rw [hs] at hs'; simp at hs'; obtain ⟨rfl, rfl⟩ := hs'
 rw [hk] at hk'
 simp only [Option.some.injEq] at hk'; subst hk'
 cases hro with
 | cells _ _ _ _ _ _ _ htt => exact htt
theorem load_ok (hr : Rel B G σ hp w) {t : TypeId} {a x : AV} {va : Value} (h : loadA P hp t a = some x) (ha : Rv σ a va) : Runs P σ w (Instr.loadAt t va) x := by
 unfold loadA at h
 split at h
 ·rename_i id off
  split at h
  ·rename_i wr o l hg
   obtain ⟨b, z, hs, rfl⟩ := ha.inv_ptr
   obtain ⟨k, z', c, tt, fr, hs', hk, hz, ho, hl, hf, hc, _⟩ := hr.cells hg
   rw [hs] at hs'; simp at hs'; obtain ⟨rfl, rfl⟩ := hs'
   obtain ⟨v, hv, hx⟩ := run_loadVar (P := P) hk hc hl h
   exact ⟨v, by simpa [Instr.loadAt, Instr.sureAddr] using hv, hx⟩
  ·cases h
 ·cases h
theorem fieldF_spec {s : TypeId} {f : Nat} {fd : Field} (h : fieldF P s f = some fd) : ∃ fs, P.underlying s = some (.struct fs) ∧ fs[f]? = some fd := by
 unfold fieldF at h
 split at h
 ·rename_i fs hu; exact ⟨fs, hu, by simpa using h⟩
 ·cases h
theorem fieldAddr_ok (hr : Rel B G σ hp w) {s : TypeId} {x : AV} {f : Nat} {vx : Value} {r : R} (h : doFieldAddr P nx s x f = some r) (hx : Rv σ x vx) : OkV P B G σ hp nx w (Instr.fieldAt s vx f) r := by
 unfold doFieldAddr at h
 split at h
 ·rename_i fd id off hf
  split at h
  ·rename_i n hsz
   refine OkV.rv hr h ?_
   obtain ⟨b, z, hs, rfl⟩ := hx.inv_ptr
   obtain ⟨fs, hu, hfd⟩ := fieldF_spec hf
   refine ⟨.pointer (some ⟨b, off + fd.offset, none⟩), ?_, .ptr _ _ _ _ hs⟩
   simp [Instr.fieldAt, run_und hu, hfd, Instr.sureAddr, fieldPlace, run_size hsz, addr_add]
  ·cases h
 ·cases h
theorem field_ok (hr : Rel B G σ hp w) {s : TypeId} {x : AV} {f : Nat} {vx : Value} {r : R} (h : doField P nx s x f = some r) (hx : Rv σ x vx) : OkV P B G σ hp nx w (Instr.field s vx f) r := by
 unfold doField at h
 split at h
 ·rename_i fd l hf
  refine OkV.rvO hr h fun y hy => ?_
  obtain ⟨vs, hl, h1, rfl⟩ := hx.inv_agg
  obtain ⟨fs, hu, hfd⟩ := fieldF_spec hf
  obtain ⟨v, hv, hxx⟩ := run_part (P := P) (w := w) hl h1 hy
  exact ⟨v, by simp [Instr.field, run_und hu, hfd, asAgg, hv], hxx⟩
 ·cases h
theorem indexAddr_ok (hr : Rel B G σ hp w) {t : TypeId} {x i : AV} {vx vi : Value} {r : R} (h : doIndexAddr P nx t x i = some r) (hx : Rv σ x vx) (hi : Rv σ i vi) : OkV P B G σ hp nx w (Instr.indexAt t vx vi) r := by
 unfold doIndexAddr at h
 split at h
 ·rename_i k n
  rw [hi.inv_int]
  split at h
  ·rename_i e hu
   split at h
   ·rename_i id off len cap es s hsz
    rcases cond_eq_some h with ⟨hb, h⟩ | ⟨_, h⟩
    ·refine OkV.rv hr h ?_
     obtain ⟨b, z, c, hs, rfl⟩ := hx.inv_sl
     have hlt := blt_iff.1 hb
     refine ⟨.pointer (some ⟨b, off + n * s, none⟩), ?_, .ptr _ _ _ _ hs⟩
     simp [Instr.indexAt, asIntOf, run_und hu, run_size hsz, addr_add, hlt]
    ·cases h
   ·cases h
  ·rename_i len e hu
   split at h
   ·rename_i id off s hsz
    rcases cond_eq_some h with ⟨hb, h⟩ | ⟨_, h⟩
    ·refine OkV.rv hr h ?_
     obtain ⟨b, z, hs, rfl⟩ := hx.inv_ptr
     have hlt := blt_iff.1 hb
     refine ⟨.pointer (some ⟨b, off + n * s, none⟩), ?_, .ptr _ _ _ _ hs⟩
     simp [Instr.indexAt, asIntOf, run_und hu, run_size hsz, addr_add, hlt, Instr.sureAddr]
    ·cases h
   ·cases h
  ·cases h
 ·cases h
theorem nthS_get : ∀ (l : List Nat) (n : Nat), nthS l n = l[n]? := by
 intro l
 induction l with
 | nil => intro n; (rw [nthS_n]; rfl)
 | cons x l ih => intro n; cases n with
  | zero => rfl
  | succ n => simp [nthS_n, nthS_z, nthS_c, ih]
theorem index_ok (hr : Rel B G σ hp w) {t : TypeId} {x i : AV} {vx vi : Value} {r : R} (h : doIndex P nx t x i = some r) (hx : Rv σ x vx) (hi : Rv σ i vi) : OkV P B G σ hp nx w (Instr.index t vx vi) r := by
 unfold doIndex at h
 split at h
 ·rename_i k n
  rw [hi.inv_int]
  split at h
  ·rename_i hu
   split at h
   ·rename_i s
    split at h
    ·rename_i b hb
     refine OkV.rv hr h ?_
     obtain ⟨u, rfl, rfl⟩ := hx.inv_str
     rw [nthS_get] at hb
     simp only [ofBA, List.getElem?_map, Option.map_eq_some_iff] at hb
     obtain ⟨y, hy, rfl⟩ := hb
     have hn : n < u.size := by
      have := (List.getElem?_eq_some_iff.1 hy).1
      simpa using this
     have hget : u[n]? = some y := by
      have h2 : u.data.toList[n]? = some u.data[n] := by simp [hn]
      rw [h2] at hy
      simp only [Option.some.injEq] at hy
      rw [← hy]
      exact ByteArray.getElem?_lt' u n hn
     refine ⟨.int .u8 y.toNat, ?_, .int _ _⟩
     simp [Instr.index, asIntOf, run_und hu, hget]
    ·cases h
   ·cases h
  ·rename_i len e hu
   split at h
   ·rename_i l s hsz
    rcases cond_eq_some h with ⟨hb, h⟩ | ⟨_, h⟩
    ·refine OkV.rvO hr h fun y hy => ?_
     obtain ⟨vs, hl, h1, rfl⟩ := hx.inv_agg
     have hlt := blt_iff.1 hb
     obtain ⟨v, hv, hxx⟩ := run_part (P := P) (w := w) hl h1 hy
     exact ⟨v, by simp [Instr.index, asIntOf, run_und hu, run_size hsz, hlt, hv], hxx⟩
    ·cases h
   ·cases h
  ·cases h
 ·cases h
theorem bound_spec {v : AV} {top n : Nat} {c : Value} (h : bound v top = some n) (hv : Rv σ v c) (code : BoundsCode) : (Instr.sliceBound c top code).run P w = .ok n w ∧ n ≤ top := by
 unfold bound at h
 split at h
 ·rename_i k m
  rcases cond_eq_some h with ⟨hb, h⟩ | ⟨_, h⟩
  ·simp only [Option.some.injEq] at h; subst h
   rw [hv.inv_int]
   have := ble_iff.1 hb
   exact ⟨by simp [Instr.sliceBound, asIntOf, this], this⟩
  ·cases h
 ·cases h
def RO (σ : Sg) : Option AV → Option Value → Prop
 | none, none => True
 | some a, some v => Rv σ a v
 | _, _ => False
theorem boundO_spec {v : Option AV} {top dflt n : Nat} {c : Option Value} (h : boundO v top dflt = some n) (hv : RO σ v c) (hd : v = none → dflt ≤ top) (code : BoundsCode) :
  (match c with | some u => Instr.sliceBound u top code | none => (pure dflt : Sem Nat)).run P w = .ok n w ∧ n ≤ top := by
 cases v with
 | none =>
  cases c with
  | none => simp only [boundO, Option.some.injEq] at h; subst h; exact ⟨rfl, hd rfl⟩
  | some u => exact hv.elim
 | some v =>
  cases c with
  | none => exact hv.elim
  | some u => exact bound_spec (by simpa [boundO] using h) hv code
theorem sliceStr_ok {s : ByteArray} {lo hi : Option AV} {clo chi : Option Value} {x : AV} {t : TypeId} (hu : P.underlying t = some .string) (h : sliceStr (ofBA s) lo hi = some x) (hlo : RO σ lo clo) (hhi : RO σ hi chi) :
  Runs P σ w (Instr.sliceAt t (.string s) clo chi none) x := by
 unfold sliceStr at h
 split at h
 ·rename_i hh hhe
  split at h
  ·rename_i ll hle
   simp only [Option.some.injEq] at h; subst h
   rw [ofBA_length] at hhe
   obtain ⟨h1, h2⟩ := boundO_spec (P := P) (w := w) hhe hhi (fun _ => Nat.le_refl _) .sliceAlen
   obtain ⟨h3, h4⟩ := boundO_spec (P := P) (w := w) hle hlo (fun _ => Nat.zero_le _) .sliceB
   refine ⟨.string (s.extract ll hh), ?_, ?_⟩
   ·have hb : (Instr.sliceBounds false s.size s.size clo chi none).run P w = .ok (ll, hh, s.size) w := by
     unfold Instr.sliceBounds
     cases chi <;> cases clo <;> simp at h1 h3 ⊢ <;> simp [h1, h3]
    simp [Instr.sliceAt, Instr.slice, run_und hu, hb]
   ·have : ((ofBA s).take hh).drop ll = ofBA (s.extract ll hh) := by
     simp only [ofBA, ByteArray.data_extract, Array.toList_extract, List.extract_eq_take_drop, List.map_take, List.map_drop]
     rw [List.drop_take]
    rw [this]; exact .str _
  ·cases h
 ·cases h
end
end Go.Ex
set_option linter.unusedVariables false
set_option linter.unusedSimpArgs false
namespace Go.Ex

section
variable {P : Program} {B G : Nat} {σ : Sg} {hp : Tr Blk} {nx : Nat} {w : World}

theorem bounds_ok {s : Bool} {len cap m h l : Nat} {lo hi mx : Option AV} {clo chi cmx : Option Value} (hm : boundO mx cap cap = some m) (hh : boundH hi mx m len = some h)
  (hl : boundO lo h 0 = some l) (rlo : RO σ lo clo) (rhi : RO σ hi chi) (rmx : RO σ mx cmx) : (Instr.sliceBounds s len cap clo chi cmx).run P w = .ok (l, h, m) w ∧ l ≤ h ∧ m ≤ cap := by
 have g1 := fun code => boundO_spec (P := P) (w := w) hm rmx (fun _ => Nat.le_refl _) code
 have g3 := fun code => boundO_spec (P := P) (w := w) hl rlo (fun _ => Nat.zero_le _) code
 refine ⟨?_, (g3 .sliceB).2, (g1 .slice3Acap).2⟩
 unfold Instr.sliceBounds
 cases mx with
 | none =>
  cases cmx with
  | some u => exact rmx.elim
  | none =>
   simp only [boundO, Option.some.injEq] at hm; subst hm
   cases hi with
   | none =>
    cases chi with
    | some u => exact rhi.elim
    | none =>
     simp only [boundH, Option.some.injEq] at hh; subst hh
     cases clo with
     | none => have := (g3 .sliceB).1; simp at this ⊢; exact this
     | some u => have := (g3 .sliceB).1; simp at this ⊢; simp [this]
   | some a =>
    cases chi with
    | none => exact rhi.elim
    | some u =>
     have k := fun code => (bound_spec (P := P) (w := w) (by simpa [boundH] using hh) rhi code).1
     cases clo with
     | none => have := (g3 .sliceB).1; simp at this ⊢; simp [k, this]
     | some u => have := (g3 .sliceB).1; simp at this ⊢; simp [k, this]
 | some a =>
  cases cmx with
  | none => exact rmx.elim
  | some u =>
   have k1 := fun code => (bound_spec (P := P) (w := w) (by simpa [boundO] using hm) rmx code).1
   cases hi with
   | none => simp [boundH] at hh
   | some a' =>
    cases chi with
    | none => exact rhi.elim
    | some u' =>
     have k := fun code => (bound_spec (P := P) (w := w) (by simpa [boundH] using hh) rhi code).1
     cases clo with
     | none => have := (g3 .slice3C).1; simp at this ⊢; simp [k, k1, this]
     | some u => have := (g3 .slice3C).1; simp at this ⊢; simp [k, k1, this]
theorem sliceCap_spec {id off len cap es : Nat} {lo hi mx : Option AV} {x : AV} (h : sliceCap id off len cap es lo hi mx = some x) :
  ∃ m hh l, boundO mx cap cap = some m ∧ boundH hi mx m len = some hh ∧ boundO lo hh 0 = some l ∧ x = .sl id (if m = l then off else off + l * es) (hh - l) (some (m - l)) es := by
 unfold sliceCap at h
 split at h
 ·rename_i m hm
  split at h
  ·rename_i hh hhe
   split at h
   ·rename_i l hl
    simp only [Option.some.injEq] at h; subst h
    refine ⟨m, hh, l, hm, hhe, hl, ?_⟩
    by_cases e : m = l
    ·rw [beq_t e]; simp [e]
    ·rw [beq_f e]; simp [e]
   ·cases h
  ·cases h
 ·cases h
theorem slice_ok (hr : Rel B G σ hp w) {t : TypeId} {x : AV} {lo hi mx : Option AV} {vx : Value} {clo chi cmx : Option Value} {r : R} (h : doSlice P hp nx t x lo hi mx = some r) (hx : Rv σ x vx) (rlo : RO σ lo clo) (rhi : RO σ hi chi) (rmx : RO σ mx cmx) :
  OkV P B G σ hp nx w (Instr.sliceAt t vx clo chi cmx) r := by
 unfold doSlice at h
 split at h
 ·rename_i n el hu
  split at h
  ·rename_i id off s hsz
   refine OkV.rvO hr h fun y hy => ?_
   obtain ⟨m, hh, l, h1, h2, h3, rfl⟩ := sliceCap_spec hy
   obtain ⟨g, _, _⟩ := bounds_ok (P := P) (w := w) (s := false) h1 h2 h3 rlo rhi rmx
   obtain ⟨b, z, hs, rfl⟩ := hx.inv_ptr
   refine ⟨.slice (some ⟨b, if m = l then off else off + l * (s + 1), none⟩) (hh - l) (m - l), ?_, .slc _ _ _ _ _ _ _ hs⟩
   simp only [Instr.sliceAt, Sem.run_bind, run_und hu, Result.andThen_ok, Instr.sureAddr, Sem.run_pure, g, run_size hsz, addr_add]
   split <;> rfl
  ·cases h
 ·rename_i hu
  split at h
  ·rename_i s
   refine OkV.rvO hr h fun y hy => ?_
   obtain ⟨u, rfl, rfl⟩ := hx.inv_str
   cases cmx with
   | some c => exact rmx.elim
   | none => exact sliceStr_ok hu hy rlo rhi
  ·cases h
 ·rename_i el hu
  split at h
  ·rename_i s hsz
   split at h
   ·rename_i hi' lo' h2 h3
    refine OkV.rv hr h ?_
    cases cmx with
    | some c => exact rmx.elim
    | none =>
     rw [hx.inv_nils]
     obtain ⟨g, g1, g2⟩ := bounds_ok (P := P) (w := w) (s := true) (len := 0) (cap := 0) (m := 0) (mx := none) (cmx := none) (by rfl) (by cases hi <;> simpa [boundH, boundO] using h2) (by
      have : hi' = 0 := by
       have := (boundO_spec (P := P) (w := w) h2 rhi (fun _ => Nat.le_refl _) .sliceB).2; omega
      subst this; exact h3) rlo rhi rmx
     have e1 : hi' = 0 := by
       have := (boundO_spec (P := P) (w := w) h2 rhi (fun _ => Nat.le_refl _) .sliceB).2; omega
     subst e1
     have e2 : lo' = 0 := by omega
     subst e2
     refine ⟨.slice none 0 0, ?_, .nils⟩
     simp only [Instr.sliceAt, Instr.slice, Sem.run_bind, run_und hu, Result.andThen_ok, g, run_size hsz, Sem.run_pure]
     rfl
   ·cases h
  ·rename_i s hsz
   split at h
   ·rename_i hi' lo' h2 h3
    refine OkV.rv hr h ?_
    cases cmx with
    | some c => exact rmx.elim
    | none =>
     obtain ⟨a, c, rfl⟩ := hx.inv_sle
     have e1 : hi' = 0 := by
       have := (boundO_spec (P := P) (w := w) h2 rhi (fun _ => Nat.le_refl _) .sliceB).2; omega
     subst e1
     have e2 : lo' = 0 := by
       have := (boundO_spec (P := P) (w := w) h3 rlo (fun _ => Nat.le_refl _) .sliceB).2; omega
     subst e2
     have hh2 : boundH hi none c 0 = some 0 := by
      cases hi with
      | none => rfl
      | some v =>
       simp only [boundO] at h2
       simp only [boundH]
       unfold bound at h2 ⊢
       split at h2
       ·rcases cond_eq_some h2 with ⟨_, e⟩ | ⟨_, e⟩
        ·simp only [Option.some.injEq] at e; subst e; rw [ble_iff.2 (Nat.zero_le _)]; rfl
        ·cases e
       ·cases h2
     obtain ⟨g, g1, g2⟩ := bounds_ok (P := P) (w := w) (s := true) (len := 0) (cap := c) (m := c) (mx := none) (cmx := none) (by rfl) hh2 h3 rlo rhi rmx
     simp only [Instr.sliceAt, Instr.slice, Runs, Sem.run_bind, run_und hu, Result.andThen_ok, g, run_size hsz, Sem.run_pure]
     refine ⟨_, rfl, ?_⟩
     split
     ·exact .sle _ _
     ·exact .sle _ _
   ·cases h
  ·rename_i s id off len cap es hsz
   rcases cond_eq_some h with ⟨hb, h⟩ | ⟨_, h⟩
   ·refine OkV.rvO hr h fun y hy => ?_
    have e := beq_iff.1 hb; subst e
    obtain ⟨m, hh, l, h1, h2, h3, rfl⟩ := sliceCap_spec hy
    obtain ⟨g, _, _⟩ := bounds_ok (P := P) (w := w) (s := true) h1 h2 h3 rlo rhi rmx
    obtain ⟨b, z, hs, rfl⟩ := hx.inv_slc
    refine ⟨.slice (some ⟨b, if m = l then off else off + l * s, none⟩) (hh - l) (m - l), ?_, .slc _ _ _ _ _ _ _ hs⟩
    simp only [Instr.sliceAt, Instr.slice, Sem.run_bind, run_und hu, Result.andThen_ok, Sem.run_pure, g, run_size hsz, Option.map_some, addr_add]
    split <;> rfl
   ·cases h
  ·rename_i s id off len es hsz
   rcases cond_eq_some h with ⟨hb, h⟩ | ⟨_, h⟩
   ·simp only [Bool.and_eq_true] at hb
    have e := beq_iff.1 hb.1; subst e
    have hpos := blt_iff.1 hb.2
    split at h
    ·rename_i wr o cs hg _
     refine OkV.rvO hr h fun y hy => ?_
     obtain ⟨b, z, c, hs, hz, hcm, rfl⟩ := hx.inv_slo
     obtain ⟨k, z', cc, tt, fr, hs', hk, hcz, ho, hl, hf, hc, _⟩ := hr.cells hg
     rw [hs] at hs'; simp at hs'; obtain ⟨rfl, rfl⟩ := hs'
     have hknown : (cs.length - off) / s ≤ c := by
      have : cs.length - off ≤ c * s := by omega
      calc (cs.length - off) / s ≤ c * s / s := Nat.div_le_div_right this
       _ = c := Nat.mul_div_cancel _ hpos
     cases cmx with
     | some c => exact rmx.elim
     | none =>
      unfold sliceOpn at hy
      split at hy
      ·rename_i hh hhe
       split at hy
       ·rename_i l hle
        have hh2 : boundH hi none c len = some hh := by
         cases hi with
         | none => simpa [boundO, boundH] using hhe
         | some v =>
          simp only [boundO] at hhe
          simp only [boundH]
          unfold bound at hhe ⊢
          split at hhe
          ·rcases cond_eq_some hhe with ⟨hb', e⟩ | ⟨_, e⟩
           ·simp only [Option.some.injEq] at e; subst e
            have := ble_iff.1 hb'
            rw [ble_iff.2 (Nat.le_trans this hknown)]; rfl
           ·cases e
          ·cases hhe
        obtain ⟨g, g1, g2⟩ := bounds_ok (P := P) (w := w) (s := true) (len := len) (cap := c) (m := c) (mx := none) (cmx := none) (by rfl) hh2 hle rlo rhi rmx
        have hrun : (Instr.sliceAt t (.slice (some ⟨b, off, none⟩) len c) clo chi none).run P w = .ok (.slice (some ⟨b, if c = l then off else off + l * s, none⟩) (hh - l) (c - l)) w := by
         simp only [Instr.sliceAt, Instr.slice, Sem.run_bind, run_und hu, Result.andThen_ok, Sem.run_pure, g, run_size hsz, Option.map_some, addr_add]
         split <;> rfl
        refine ⟨_, hrun, ?_⟩
        rcases cond_eq_some hy with ⟨hb', e⟩ | ⟨hb', e⟩
        ·simp only [Option.some.injEq] at e; subst e
         have := beq_iff.1 hb'; subst this
         have : (if c = 0 then off else off + 0 * s) = off := by split <;> simp
         rw [this]
         exact .slo _ _ _ _ _ _ _ hs hz hcm
        ·rcases cond_eq_some e with ⟨hb'', e⟩ | ⟨hb'', e⟩
         ·simp only [Option.some.injEq] at e; subst e
          have hlt := blt_iff.1 hb''
          have hne : ¬ c = l := by omega
          rw [if_neg hne]
          refine .slo _ _ _ _ _ _ _ hs ?_ (Nat.le_trans (Nat.sub_le _ _) hcm)
          have : l ≤ c := by omega
          rw [Nat.sub_mul]
          have : l * s ≤ c * s := Nat.mul_le_mul_right _ this
          omega
         ·rcases cond_eq_some e with ⟨hb3, e⟩ | ⟨_, e⟩
          ·simp only [Option.some.injEq] at e; subst e
           have := beq_iff.1 hb3; subst this
           rw [Nat.sub_self]
           exact .sle _ _
          ·cases e
       ·cases hy
      ·cases hy
    ·rename_i mv _ _ _ cs hg _
     refine OkV.rvO hr h fun y hy => ?_
     obtain ⟨b, z, c, hs, hz, hcm, rfl⟩ := hx.inv_slo
     obtain ⟨k, z', cc, tt, fr, hs', hk, hcz, ho, hl, hf, hc, _⟩ := hr.cells hg
     rw [hs] at hs'; simp at hs'; obtain ⟨rfl, rfl⟩ := hs'
     have hknown : (cs.length - off) / s ≤ c := by
      have : cs.length - off ≤ c * s := by omega
      calc (cs.length - off) / s ≤ c * s / s := Nat.div_le_div_right this
       _ = c := Nat.mul_div_cancel _ hpos
     obtain ⟨m, hh, l, h1, h2, h3, rfl⟩ := sliceCap_spec hy
     have h1' : boundO (some mv) c c = some m := by
      simp only [boundO] at h1 ⊢
      unfold bound at h1 ⊢
      split at h1
      ·rcases cond_eq_some h1 with ⟨hb', e⟩ | ⟨_, e⟩
       ·simp only [Option.some.injEq] at e; subst e
        rw [ble_iff.2 (Nat.le_trans (ble_iff.1 hb') hknown)]; rfl
       ·cases e
      ·cases h1
     obtain ⟨g, _, _⟩ := bounds_ok (P := P) (w := w) (s := true) (cap := c) h1' h2 h3 rlo rhi rmx
     refine ⟨.slice (some ⟨b, if m = l then off else off + l * s, none⟩) (hh - l) (m - l), ?_, .slc _ _ _ _ _ _ _ hs⟩
     simp only [Instr.sliceAt, Instr.slice, Sem.run_bind, run_und hu, Result.andThen_ok, Sem.run_pure, g, run_size hsz, Option.map_some, addr_add]
     split <;> rfl
    ·cases h
   ·cases h
  ·cases h
 ·cases h
theorem RL.toArray {σ : Sg} {l : List AV} {c : Array Value} : RL σ l c.toList ↔ (l.length = c.size ∧ ∀ (i : Nat) x v, l[i]? = some x → c[i]? = some v → Rv σ x v) := by
 unfold RL; simp
theorem fold_set : ∀ (vs : List Value) (cs : Array Value) (off k : Nat) (i : Nat),
  ((vs.zipIdx k).foldl (fun cs (p : Value × Nat) => cs.setIfInBounds (off + p.2) p.1) cs)[i]? = if off + k ≤ i ∧ i < off + k + vs.length ∧ i < cs.size then vs[i - (off + k)]? else cs[i]? := by
 intro vs
 induction vs with
 | nil => intro cs off k i; simp; intro h1 h2; omega
 | cons v vs ih =>
  intro cs off k i
  simp only [List.zipIdx_cons, List.foldl_cons, ih, Array.size_setIfInBounds, List.length_cons]
  by_cases e : i = off + k
  ·subst e
   rw [if_neg (by omega)]
   by_cases hs : off + k < cs.size
   ·rw [if_pos (by omega)]; simp [hs]
   ·rw [if_neg (by omega)]; simp [hs]
  ·by_cases h1 : off + (k + 1) ≤ i ∧ i < off + (k + 1) + vs.length ∧ i < cs.size
   ·rw [if_pos h1, if_pos (by omega), show i - (off + k) = (i - (off + (k + 1))) + 1 from by omega]; simp
   ·rw [if_neg h1, if_neg (by omega), Array.getElem?_setIfInBounds_ne (by omega)]
theorem fold_set_size : ∀ (l : List (Value × Nat)) (cs : Array Value) (off : Nat), (l.foldl (fun cs (p : Value × Nat) => cs.setIfInBounds (off + p.2) p.1) cs).size = cs.size := by
 intro l
 induction l with
 | nil => intro cs off; rfl
 | cons p l ih => intro cs off; simp [ih]
def RPs (σ : Sg) : List (Nat × AV) → List (Nat × Value) → Prop
 | [], [] => True
 | (i, a) :: l, (j, v) :: m => i = j ∧ Rv σ a v ∧ RPs σ l m
 | _, _ => False
theorem fill_ok {place : Nat → Option (Nat × Nat)} : ∀ {ps : List (Nat × AV)} {vs : List (Nat × Value)} {l r : List AV} {c : Array Value}, fillA place ps l = some r → RPs σ ps vs → RL σ l c.toList → (∀ u, u ∈ c.toList → oneC u = true) →
  ∃ c', Instr.fill place c vs = some c' ∧ RL σ r c'.toList ∧ (∀ u, u ∈ c'.toList → oneC u = true) := by
 intro ps
 induction ps with
 | nil =>
  intro vs l r c h hp hl h1
  cases vs with
  | nil => simp [fillA] at h; subst h; exact ⟨c, rfl, hl, h1⟩
  | cons v vs => exact hp.elim
 | cons p ps ih =>
  intro vs l r c h hp hl h1
  obtain ⟨i, a⟩ := p
  cases vs with
  | nil => exact hp.elim
  | cons q vs =>
   obtain ⟨j, v⟩ := q
   obtain ⟨rfl, hv, hp'⟩ := hp
   simp only [fillA] at h
   split at h
   ·rename_i off size cs hpl hck
    rcases cond_eq_some h with ⟨hb, h⟩ | ⟨_, h⟩
    ·simp only [Bool.and_eq_true] at hb
     have hsz := beq_iff.1 hb.1
     have hin := ble_iff.1 hb.2
     split at h
     ·rename_i l' hl'
      obtain ⟨us, hus, hu1, hcells⟩ := hv.cells hck
      obtain ⟨g1, g2, g3⟩ := putL_spec _ _ _ _ hl'
      have hlen : us.length = size := by rw [← hus.1]; exact hsz
      have hcs : v.cells.size = size := by rw [hcells]; simpa using hlen
      have hbound : size = 0 ∨ off + size ≤ c.size := by
       rcases g2 with g2 | g2
       ·left; rw [← hsz, g2]; rfl
       ·right; have := hl.1; simp at this; omega
      let c' := (us.zipIdx 0).foldl (fun cs (p : Value × Nat) => cs.setIfInBounds (off + p.2) p.1) c
      have hc'sz : c'.size = c.size := fold_set_size _ _ _
      have hc'get : ∀ k : Nat, c'[k]? = if off ≤ k ∧ k < off + us.length ∧ k < c.size then us[k - off]? else c[k]? := fun k => by
       have := fold_set us c off 0 k
       simpa using this
      have hRL : RL σ l' c'.toList := by
       rw [RL.toArray]
       refine ⟨by rw [g1, hc'sz]; simpa using hl.1, fun k x u hx hu => ?_⟩
       rw [g3 k] at hx
       rw [hc'get k] at hu
       have hk : k < c.size := by
        rcases Nat.lt_or_ge k c.size with e | e
        ·exact e
        ·rw [if_neg (by omega)] at hu; simp [e] at hu
       by_cases hin : off ≤ k ∧ k < off + us.length
       ·rw [if_pos (by have := hus.1; omega)] at hx
        rw [if_pos (by omega)] at hu
        exact hus.2 _ _ _ hx hu
       ·rw [if_neg (by have := hus.1; omega)] at hx
        rw [if_neg (by omega)] at hu
        exact hl.2 k x u hx (by simpa using hu)
      have hone : ∀ u, u ∈ c'.toList → oneC u = true := by
       intro u hu
       obtain ⟨k, hk⟩ := List.mem_iff_getElem?.1 hu
       rw [Array.getElem?_toList, hc'get k] at hk
       split at hk
       ·exact hu1 u (List.mem_of_getElem? hk)
       ·exact h1 u (List.mem_of_getElem? (by simpa using hk))
      obtain ⟨c'', e1, e2, e3⟩ := ih h hp' hRL hone
      refine ⟨c'', ?_, e2, e3⟩
      simp only [Instr.fill, hpl]
      rw [if_neg (by
       simp only [Bool.or_eq_true, bne_iff_ne, ne_eq, decide_eq_true_eq, not_or, Decidable.not_not]
       refine ⟨hcs, ?_⟩
       rw [hcs]; have := hl.1; simp at this; omega)]
      rw [← e1]
      congr 1
      show _ = c'
      rw [hcells]
      simp [c']
     ·cases h
    ·cases h
   ·cases h
end
end Go.Ex
