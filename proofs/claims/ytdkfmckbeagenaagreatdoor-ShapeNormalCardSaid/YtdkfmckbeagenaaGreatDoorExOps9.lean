/-
  The abstract machine: numbers, conversions, interface values, ranges, the smaller builtins.
 The abstract machine: maps whose entries' order is not known.
 The abstract machine: the last operations; an operation that calls nothing.
 The abstract machine: an operation that calls nothing.
-/
import Derived.Test.YtdkfmckbeagenaaGreatDoorExOps6
import Derived.Laws.BytesString
import Derived.Lib.Builder
import Derived.Lib.UnsafeStr
import Derived.Lib.MakeNoZero
import Derived.Laws.RangeString
import Derived.Maps.RangeRun
import Derived.Laws.StructEq
set_option linter.unusedVariables false
set_option linter.unusedSimpArgs false
namespace Go.Ex

section
variable {P : Program} {B G : Nat} {σ : Sg} {hp : Tr Blk} {nx : Nat} {w : World}

theorem eqP_known {d : TypeDesc} {x y : AV} {b : Bool} (h : eqP P d x y = some b) : Kn x ∧ Kn y ∧ ¬ ∃ l m, x = .agg l ∧ y = .agg m := by
 refine ⟨?_, ?_, ?_⟩
 ·constructor <;> (rintro rfl; simp [eqP] at h)
 ·constructor <;> (rintro rfl; simp [eqP] at h)
 ·rintro ⟨l, m, rfl, rfl⟩; simp [eqP] at h
theorem eqV_known {t : TypeId} {x y : AV} {b : Bool} (h : eqV P t x y = some b) : Kn x ∧ Kn y ∧ ¬ ∃ l m, x = .agg l ∧ y = .agg m := by
 unfold eqV at h
 split at h
 ·refine ⟨by simp [Kn], by simp [Kn], ?_⟩; rintro ⟨l, m, e, _⟩; cases e
 ·exact eqP_known h
 ·cases h
theorem binA_known {op : BinOp} {t : TypeId} {x y z : AV} (h : binA P op t x y = some z) : Kn x ∧ Kn y ∧ ¬ ∃ l m, x = .agg l ∧ y = .agg m := by
 unfold binA at h
 split at h
 ·exact ⟨by simp [Kn], by simp [Kn], by rintro ⟨l, m, e, _⟩; cases e⟩
 ·exact ⟨by simp [Kn], by simp [Kn], by rintro ⟨l, m, e, _⟩; cases e⟩
 ·exact ⟨by simp [Kn], by simp [Kn], by rintro ⟨l, m, e, _⟩; cases e⟩
 ·split at h
  ·split at h
   ·rename_i he; exact eqV_known he
   ·cases h
  ·split at h
   ·rename_i he; exact eqV_known he
   ·cases h
  ·cases h
theorem binOp_eql {t : TypeId} {x y : Value} (h1 : ∀ k a k' b, ¬ (x = .int k a ∧ y = .int k' b)) (h2 : ∀ a b, ¬ (x = .string a ∧ y = .string b)) (h3 : ∀ k a, x ≠ .float k a) (h4 : ∀ k a b, x ≠ .complex k a b) :
  binOp .eql t x y = (do pure (.bool (← Op.equal t x y))) := by
 cases x <;> cases y <;> first
  | rfl
  | exact absurd ⟨rfl, rfl⟩ (h1 _ _ _ _)
  | exact absurd ⟨rfl, rfl⟩ (h2 _ _)
  | exact absurd rfl (h3 _ _)
  | exact absurd rfl (h4 _ _ _)
theorem binOp_neq {t : TypeId} {x y : Value} (h1 : ∀ k a k' b, ¬ (x = .int k a ∧ y = .int k' b)) (h2 : ∀ a b, ¬ (x = .string a ∧ y = .string b)) (h3 : ∀ k a, x ≠ .float k a) (h4 : ∀ k a b, x ≠ .complex k a b) :
  binOp .neq t x y = (do pure (.bool (!(← Op.equal t x y)))) := by
 cases x <;> cases y <;> first
  | rfl
  | exact absurd ⟨rfl, rfl⟩ (h1 _ _ _ _)
  | exact absurd ⟨rfl, rfl⟩ (h2 _ _)
  | exact absurd rfl (h3 _ _)
  | exact absurd rfl (h4 _ _ _)
theorem eqP_flt {d : TypeDesc} {x y : AV} {b : Bool} (h : eqP P d x y = some b) : (∀ k n, x ≠ .flt k n) ∧ (∀ k n, y ≠ .flt k n) := by
 refine ⟨fun k n e => ?_, fun k n e => ?_⟩
 ·subst e; simp [eqP] at h
 ·subst e; simp [eqP] at h
theorem eqV_flt {t : TypeId} {x y : AV} {b : Bool} (h : eqV P t x y = some b) : (∀ k n, x ≠ .flt k n) ∧ (∀ k n, y ≠ .flt k n) := by
 unfold eqV at h
 split at h
 ·exact ⟨fun _ _ e => (by cases e), fun _ _ e => (by cases e)⟩
 ·exact eqP_flt h
 ·cases h
theorem rv_int {x : AV} {k : IntKind} {n : Int} (hx : Rv σ x (.int k n)) (hj : Kn x) : x = .int k n := by
 cases hx <;> first | rfl | (exact absurd rfl hj.1) | (exact absurd rfl hj.2)
theorem rv_str {x : AV} {s : ByteArray} (hx : Rv σ x (.string s)) (hj : Kn x) : x = .str (ofBA s) := by
 cases hx <;> first | rfl | (exact absurd rfl hj.1) | (exact absurd rfl hj.2)
theorem rv_nflt {x : AV} {v : Value} (hx : Rv σ x v) (hj : Kn x) (hf : ∀ k n, x ≠ .flt k n) : (∀ k a, v ≠ .float k a) ∧ (∀ k a b, v ≠ .complex k a b) := by
 refine ⟨fun k a e => ?_, fun k a b e => ?_⟩
 ·subst e; cases hx <;> first | (exact absurd rfl hj.1) | (exact absurd rfl hj.2) | exact absurd rfl (hf _ _)
 ·subst e; cases hx <;> first | (exact absurd rfl hj.1) | (exact absurd rfl hj.2)
theorem eqF_to {a b : FloatKind} (h : eqF a b = true) : a = b := by cases a <;> cases b <;> first | rfl | cases h
theorem fltR_ok {k : FloatKind} {o : Option Nat} {z : AV} {op : BinOp} {x y : Nat} (h : fltR k o = some z) :
  Runs P σ w (do match o with
   | some r => pure (.float k r)
   | none => pure (.float k (← choose (.nanBits k x y)))) z := by
 cases o with
 | none => cases h
 | some r => simp only [fltR, Option.some.injEq] at h; subst h; exact ⟨_, rfl, .flt _ _⟩
theorem flt_ok {op : BinOp} {t : TypeId} {k : FloatKind} {x y : Nat} {z : AV} (h : fltA op k x y = some z) : Runs P σ w (binOp op t (.float k x) (.float k y)) z := by
 unfold fltA at h
 cases op <;> simp only at h <;> first
  | (cases h; done)
  | (simp only [Option.some.injEq] at h; subst h
     refine ⟨_, ?_, .bool _⟩
     simp only [binOp, ne_eq, not_true, if_false, Op.floatCmp]
     rfl)
  | (simp only [binOp, ne_eq, not_true, if_false, Op.floatArith, pure_bind]
     exact fltR_ok (op := .add) (x := x) (y := y) h)
theorem bin_ok {op : BinOp} {t : TypeId} {x y z : AV} {vx vy : Value} (h : binA P op t x y = some z) (hx : Rv σ x vx) (hy : Rv σ y vy) : Runs P σ w (binOp op t vx vy) z := by
 have hk := binA_known h
 unfold binA at h
 split at h
 ·rename_i k a k' b
  rw [hx.inv_int, hy.inv_int]
  split at h
  ·exact shift_ok (P := P) (yk := k') (op := .shl) h
  ·exact shift_ok (P := P) (yk := k') (op := .shr) h
  ·rename_i h1 h2
   rcases cond_eq_some h with ⟨hb, h⟩ | ⟨_, h⟩
   ·rw [← eqK_iff hb]; exact int_ok h h1 h2
   ·cases h
 ·rename_i a b
  obtain ⟨s, rfl, rfl⟩ := hx.inv_str; obtain ⟨u, rfl, rfl⟩ := hy.inv_str
  split at h
  ·cases h
  ·cases h
  ·rename_i h1 h2; exact str_ok h h1 h2
 ·rename_i k a k' b
  rw [hx.inv_flt, hy.inv_flt]
  split at h
  ·cases h
  ·cases h
  ·rename_i h1 h2
   rcases cond_eq_some h with ⟨hb, h⟩ | ⟨_, h⟩
   ·rw [← eqF_to hb]; exact flt_ok h
   ·cases h
 ·rename_i hni hns _
  have g1 : ∀ k a k' b, ¬ (vx = .int k a ∧ vy = .int k' b) := by
   rintro k a k' b ⟨rfl, rfl⟩; exact hni _ _ _ _ (rv_int hx hk.1) (rv_int hy hk.2.1)
  have g2 : ∀ a b, ¬ (vx = .string a ∧ vy = .string b) := by
   rintro a b ⟨rfl, rfl⟩; exact hns _ _ (rv_str hx hk.1) (rv_str hy hk.2.1)
  split at h
  ·split at h
   ·rename_i b he
    simp only [Option.some.injEq] at h; subst h
    obtain ⟨g3, g4⟩ := rv_nflt hx hk.1 (eqV_flt he).1
    refine ⟨.bool b, ?_, .bool b⟩
    rw [binOp_eql g1 g2 g3 g4]
    have := eqV_ok (P := P) (w := w) (n := Op.maxDepth - 2) he hx hy
    have : (Op.equal t vx vy).run P w = .ok b w := this
    simp [this]
   ·cases h
  ·split at h
   ·rename_i b he
    simp only [Option.some.injEq] at h; subst h
    obtain ⟨g3, g4⟩ := rv_nflt hx hk.1 (eqV_flt he).1
    refine ⟨.bool (!b), ?_, .bool (!b)⟩
    rw [binOp_neq g1 g2 g3 g4]
    have := eqV_ok (P := P) (w := w) (n := Op.maxDepth - 2) he hx hy
    have : (Op.equal t vx vy).run P w = .ok b w := this
    simp [this]
   ·cases h
  ·cases h
theorem un_ok {op : UnOp} {x z : AV} {vx : Value} (h : unA op x = some z) (hx : Rv σ x vx) : Runs P σ w (Op.unary op vx) z := by
 unfold unA at h
 split at h
 ·rename_i b
  rw [hx.inv_bool]
  simp only [Option.some.injEq] at h; subst h
  exact ⟨_, rfl, .bool _⟩
 ·rename_i k n
  rw [hx.inv_int]
  simp only [Option.some.injEq] at h; subst h
  rw [wrapA_eq]
  exact ⟨_, rfl, .int _ _⟩
 ·cases h
theorem bytes_spec : ∀ {cs : List AV} {b : List Nat} {vs : List Value}, bytesOfCells cs = some b → RL σ cs vs → vs = b.map (fun n => Value.int .u8 (.ofNat n)) ∧ ∀ n ∈ b, n < 256 := by
 intro cs
 induction cs with
 | nil => intro b vs h hr; simp [bytesOfCells] at h; subst h; rw [hr.of_nil]; simp
 | cons x cs ih =>
  intro b vs h hr
  obtain ⟨v, us, rfl, hx, hr'⟩ := hr.uncons
  unfold bytesOfCells at h
  split at h
  ·rename_i heq; cases heq
  ·rename_i n l heq
   cases heq
   split at h
   ·rename_i r hr2
    rcases cond_eq_some h with ⟨hb, h⟩ | ⟨_, h⟩
    ·simp only [Option.some.injEq] at h; subst h
     obtain ⟨e, hlt⟩ := ih hr2 hr'
     rw [hx.inv_int, e]
     exact ⟨rfl, by intro m hm; rcases List.mem_cons.1 hm with rfl | hm; exact blt_iff.1 hb; exact hlt m hm⟩
    ·cases h
   ·cases h
  ·cases h
theorem shape_of {b : Nat} {c : Array Value} {t : TypeId} {fr : Nat × Nat} {w : World} (h : w.heap[b]? = some (.cells c t fr)) : w.shape? b = some (t, c.size) := by simp [World.shape?, h]
theorem size_info {t : TypeId} {n : Nat} (h : sizeB P t = some n) : ∃ j, P.info? t = some j ∧ j.size = n := by
 unfold sizeB at h
 split at h
 ·rename_i i hi; exact ⟨i, hi, by simpa using h⟩
 ·cases h
theorem foldl_bytes : ∀ (b : List Nat) (s : ByteArray), (∀ n ∈ b, n < 256) → ofBA ((b.map Int.ofNat).foldl (fun r n => r.push (UInt8.ofNat n.toNat)) s) = ofBA s ++ b := by
 intro b
 induction b with
 | nil => intro s _; simp
 | cons n b ih =>
  intro s h
  simp only [List.map_cons, List.foldl_cons]
  rw [ih _ (fun m hm => h m (by simp [hm]))]
  have := h n (by simp)
  have e : (UInt8.ofNat n).toNat = n := by simp; omega
  simp [ofBA, e]
theorem push_modify (a : Array Obj) (o : Obj) (f : Obj → Obj) : (a.push o).modify a.size f = a.push (f o) := by
 apply Array.ext_getElem?
 intro i
 rw [Array.getElem?_modify, Array.getElem?_push, Array.getElem?_push]
 by_cases h : i = a.size
 ·simp [h]
 ·simp [h, Ne.symm h]
theorem run_stringToBytes (e : TypeId) (s : ByteArray) (hbig : s.size < 1000000) : ∃ c w', s.size ≤ c ∧ CapOk c ∧ (Conv.stringToBytes e s).run P w = .ok (.slice (some ⟨w.heap.size, 0, none⟩) s.size c) w' ∧
  w'.heap = w.heap.push (.cells (s.data.map (fun b => Value.int .u8 b.toNat) ++ Array.replicate (c - s.size) (.int .u8 0)) e (c, c + 1)) ∧ w'.os = w.os ∧ w'.tape = w.tape ∧ w'.output = w.output := by
 let c := (Question.appendCap s.size 0 e).cut (w.tape w.drawn (.appendCap s.size 0 e))
 have hc : s.size ≤ c := by simp [c, Question.cut]
 let cs := s.data.map (fun b => Value.int .u8 b.toNat) ++ Array.replicate (c - s.size) (.int .u8 0)
 have hsz : cs.size = c := by
  have : s.data.size = s.size := rfl
  simp only [cs, Array.size_append, Array.size_map, Array.size_replicate, this]; omega
 let w1 : World := { w with drawn := w.drawn + 1, heap := w.heap.push (.cells cs e) }
 have hsh : w1.shape? w.heap.size = some (e, c) := by simp [World.shape?, w1, hsz]
 have hcm : CapOk c := by
  have hlt := Nat.mod_lt (w.tape w.drawn (.appendCap s.size 0 e)) (show 0 < 2 ^ 63 - s.size by omega)
  simp only [CapOk, c, Question.cut]
  omega
 refine ⟨c, w1.freeze { block := w.heap.size, off := c } 1, hc, hcm, ?_, ?_, rfl, rfl, rfl⟩
 ·simp only [Conv.stringToBytes, Sem.run_bind, run_choose, Question.forced, Bool.false_eq_true, if_false, Result.andThen_ok, newRow, markStringish, run_newObj, Sem.run_pure, run_shape]
  show ((match w1.shape? w.heap.size with | some (_, n) => freeze { block := w.heap.size, off := n } 1 | x => pure () : Sem Unit).run P w1).andThen _ = _
  rw [hsh]
  rfl
 ·simp only [World.freeze, w1]
  rw [if_neg (by decide)]
  have key := push_modify w.heap (Obj.cells cs e) (fun x => match x with
   | .cells c_1 elem (lo, hi) => .cells c_1 elem (if lo == hi then (c, c + 1) else (min lo c, max hi (c + 1)))
   | o => o)
  exact key
theorem convert_ok (hr : Rel B G σ hp w) (hB : B ≤ w.heap.size) {src dst : TypeId} {x : AV} {vx : Value} {r : R} (hf : Fresh σ nx r.nx) (h : doConvert P hp nx src dst x = some r) (hx : Rv σ x vx) : OkV P B G σ hp nx w (convert src dst vx) r := by
 unfold doConvert at h
 split at h
 ·rename_i s k hs hd
  split at h
  ·rename_i kk n
   refine .rv hr h ⟨.int k (k.wrap n), ?_, by rw [wrapA_eq]; exact .int _ _⟩
   rw [hx.inv_int]
   simp [convert, run_und hs, run_und hd, Conv.intToInt]
  ·cases h
 ·rename_i s k hs hd
  split at h
  ·rename_i kk n
   refine .rv hr h ⟨.float k (k.nearest n), ?_, .flt _ _⟩
   rw [hx.inv_int]
   simp [convert, run_und hs, run_und hd, Conv.intToFloat]
  ·rename_i sk b
   rcases cond_eq_some h with ⟨hq, h'⟩ | ⟨_, h'⟩
   ·have hq := eqF_to hq
    subst hq
    refine .rv hr h' ⟨.float sk b, ?_, .flt _ _⟩
    rw [hx.inv_flt]
    simp [convert, run_und hs, run_und hd, Conv.floatToFloat]
   ·cases h'
  ·cases h
 ·rename_i s hs hd
  split at h
  ·rename_i b
   obtain ⟨u, rfl, rfl⟩ := hx.inv_str
   refine .rv hr h ⟨.string u, ?_, .str u⟩
   cases s <;> simp [convert, run_und hs, run_und hd]
  ·rename_i kk n
   refine .rv hr h ⟨.string (Utf8.encode (.ofNat n)), ?_, .str _⟩
   rw [hx.inv_int]
   cases s <;> simp [convert, run_und hs, run_und hd, Conv.intToString]
  ·rw [hx.inv_nils]
   split at h
   ·rename_i e
    split at h
    ·rename_i he
     refine .rv hr h ⟨.string .empty, ?_, .str .empty⟩
     rw [run_convert_bytes_string w src dst e _ _ _ hs he hd]
     rfl
    ·cases h
   ·cases h
  ·rename_i id off len cap es
   split at h
   ·rename_i e
    split at h
    ·rename_i wr o l he hg
     split at h
     ·rename_i cs hcs
      split at h
      ·rename_i b hb
       obtain ⟨bk, z, c, hσ, rfl⟩ := hx.inv_sl
       obtain ⟨k, z', cc, t, fr, hσ', hk, hz, ho, hl, hfz, hc, hBk⟩ := hr.cells hg
       rw [hσ] at hσ'; simp at hσ'; obtain ⟨rfl, rfl⟩ := hσ'
       obtain ⟨g1, g2, g3⟩ := hc.sub hcs hl
       obtain ⟨e1, e2⟩ := bytes_spec hb g1
       have hload := run_loadCells (P := P) (w := w) hk g3
       rw [e1] at hload
       refine .rv hr h ⟨.string ((b.map Int.ofNat).foldl (fun r n => r.push (UInt8.ofNat n.toNat)) ByteArray.empty), ?_, ?_⟩
       ·rw [run_convert_bytes_string w src dst e _ _ _ hs he hd]
        exact run_bytesToString w _ len c (b.map Int.ofNat) (by rw [hload, List.map_map]; rfl)
       ·have e3 : b = ofBA ((b.map Int.ofNat).foldl (fun r n => r.push (UInt8.ofNat n.toNat)) ByteArray.empty) := by rw [foldl_bytes b _ e2]; simp [ofBA]
        conv => arg 2; rw [e3]
        exact .str _
      ·cases h
     ·cases h
    ·cases h
   ·cases h
  ·cases h
 ·rename_i s e hs hd
  split at h
  ·rename_i b he
   obtain ⟨u, rfl, rfl⟩ := hx.inv_str
   rcases cond_eq_some h with ⟨hlong, h'⟩ | ⟨_, h'⟩ <;> clear h
   rotate_left
   ·cases h'
   have hlong := blt_iff.1 hlong
   rw [ofBA_length] at hlong
   simp only [rnew, Option.some.injEq] at h'; subst h'
   obtain ⟨c, w', hc, hcm, hrun, hh, h1, h2, h3⟩ := run_stringToBytes (P := P) (w := w) e u hlong
   have hn := hf nx (Nat.le_refl _) (Nat.lt_succ_self _)
   have hds : u.data.size = u.size := rfl
   have hsz : (u.data.map (fun (b : UInt8) => Value.int .u8 b.toNat) ++ Array.replicate (c - u.size) (Value.int .u8 0)).size = c := by
    simp only [Array.size_append, Array.size_map, Array.size_replicate, hds]; omega
   refine OkV.newCells hr hB hn (s := convert src dst (.string u)) (cv := .slice (some ⟨w.heap.size, 0, none⟩) u.size c) (fun a h => by cases h; rfl) ?_ hh h1 h2 h3 ⟨?_, ?_⟩ (fun h => by cases h) ?_ ?_ ?_
   ·rw [← hrun]
    cases s <;> simp [convert, run_und hs, run_und hd, run_und he]
   ·intro i x hx'
    simp only [ofBA, List.map_map, List.getElem?_map, Option.map_eq_some_iff] at hx'
    obtain ⟨b, hb, rfl⟩ := hx'
    refine ⟨.int .u8 b.toNat, ?_, .int _ _⟩
    have hb' : u.data[i]? = some b := by rw [← Array.getElem?_toList]; exact hb
    have hlt := (Array.getElem?_eq_some_iff.1 hb').1
    rw [Array.getElem?_append_left (by simpa using hlt)]
    simp [hb']
   ·intro i v hv
    have hm := Array.mem_of_getElem? hv
    simp only [Array.mem_append, Array.mem_map, Array.mem_replicate] at hm
    rcases hm with ⟨b, _, rfl⟩ | ⟨_, rfl⟩ <;> rfl
   ·rw [hsz, List.length_map, ofBA_length]; exact hc
   ·rw [hsz]; intro i hi; simp only; rcases hi with hi | hi; omega; cases hi
   ·rw [hsz, ofBA_length]
    exact .slo _ _ _ c _ _ _ (Sg.put_same _ _ _) (by omega) hcm
  ·cases h
 ·rename_i t hs hd
  split at h
  ·rename_i id off n hz
   split at h
   ·rename_i wr o tt l hg
    rcases cond_eq_some h with ⟨hlt, h'⟩ | ⟨_, h'⟩ <;> clear h
    ·have hlt := blt_iff.1 hlt
     obtain ⟨b, z, hσ, rfl⟩ := hx.inv_ptr
     obtain ⟨k, z', c, tc, fr, hs', hk, hcz, ho, hl, _, _, _⟩ := hr.cells hg
     rw [hσ] at hs'; simp at hs'; obtain ⟨rfl, rfl⟩ := hs'
     obtain ⟨j, hj, hj2⟩ := size_info hz
     refine .rv hr h' ⟨.pointer (some ⟨b, off, none⟩), ?_, .ptr _ _ _ _ hσ⟩
     exact Lib.run_to_unsafe w ⟨b, off, none⟩ hs hd hj (by omega) (shape_of hk) (by show off < c.size; omega)
    ·cases h'
   ·cases h
  ·cases h
 ·rename_i u hs hd
  split at h
  ·rename_i id off n hz
   split at h
   ·rename_i wr tt l hg
    rcases cond_eq_some h with ⟨hlies, h'⟩ | ⟨_, h'⟩ <;> clear h
    ·obtain ⟨b, z, hσ, rfl⟩ := hx.inv_ptr
     obtain ⟨k, z', c, tc, fr, hs', hk, hcz, ho, hl, _, _, _⟩ := hr.cells hg
     rw [hσ] at hs'; simp at hs'; obtain ⟨rfl, rfl⟩ := hs'
     have htc := hr.cellsT hg hσ hk _ rfl
     subst htc
     obtain ⟨j, hj, hj2⟩ := size_info hz
     refine .rv hr h' ⟨.pointer (some ⟨b, off, none⟩), ?_, .ptr _ _ _ _ hσ⟩
     exact Lib.run_from_unsafe w ⟨b, off, none⟩ hs hd hj (shape_of hk) (by rw [← ho rfl]; exact hlies)
    ·cases h'
   ·cases h
  ·cases h
 ·cases h
theorem makeIface_ok (hr : Rel B G σ hp w) {t : TypeId} {x : AV} {vx : Value} {r : R} (h : doMakeIface P nx t x = some r) (hx : Rv σ x vx) : OkV P B G σ hp nx w (Instr.makeInterface t vx) r := by
 unfold doMakeIface at h
 split at h
 ·cases h
 ·cases h
 ·rename_i d hni hu
  refine .rv hr h ⟨.iface t vx, ?_, .iface t x vx hx⟩
  simp only [Instr.makeInterface, Sem.run_bind, run_und hu, Result.andThen_ok]
  cases d <;> first | rfl | exact absurd rfl (hni _)
theorem tup2 {x y : AV} {a b : Value} (hx : Rv σ x a) (hy : Rv σ y b) : Rv σ (.tup [x, y]) (.tuple #[a, b]) := .tup _ [a, b] rfl (RL.cons hx (.cons hy .nil)).2
theorem assert_ok (hr : Rel B G σ hp w) {t asserted : TypeId} {ok : Bool} {x : AV} {vx : Value} {r : R} (h : doAssert P nx x asserted ok = some r) (hx : Rv σ x vx) :
  OkV P B G σ hp nx w (Instr.typeAssert vx t asserted ok) r := by
 unfold doAssert at h
 split at h
 ·cases h
 ·rename_i d hni hu
  rcases cond_eq_some h with ⟨hok, h'⟩ | ⟨_, h'⟩ <;> clear h
  ·split at h'
   ·rename_i z hz
    obtain ⟨i, zv, hi, hz1, hz2⟩ := zeroA_spec hz
    refine .rv hr h' ⟨.tuple #[zv, .bool false], ?_, tup2 (ofVal_ok hz2) (.bool _)⟩
    subst hok
    rw [hx.inv_nili]
    simp only [Instr.typeAssert, Sem.run_bind, run_und hu, Result.andThen_ok]
    cases d <;> first | exact absurd rfl (hni _) | simp [run_zero hi hz1]
   ·cases h'
  ·cases h'
 ·rename_i d hni _ _ tt v hu
  obtain ⟨u, hu', rfl⟩ := hx.inv_iface
  rcases cond_eq_some h with ⟨hq, h'⟩ | ⟨hq, h'⟩ <;> clear h
  ·have hq := beq_iff.1 hq; subst hq
   cases ok with
   | true =>
    refine .rv hr h' ⟨.tuple #[u, .bool true], ?_, tup2 hu' (.bool _)⟩
    simp only [Instr.typeAssert, Sem.run_bind, run_und hu, Result.andThen_ok]
    cases d <;> first | exact absurd rfl (hni _) | simp
   | false =>
    refine .rv hr h' ⟨u, ?_, hu'⟩
    simp only [Instr.typeAssert, Sem.run_bind, run_und hu, Result.andThen_ok]
    cases d <;> first | exact absurd rfl (hni _) | simp
  ·have hq := beq_iff_f.1 hq
   rcases cond_eq_some h' with ⟨hok, h⟩ | ⟨_, h⟩ <;> clear h'
   ·split at h
    ·rename_i z hz
     obtain ⟨i, zv, hi, hz1, hz2⟩ := zeroA_spec hz
     refine .rv hr h ⟨.tuple #[zv, .bool false], ?_, tup2 (ofVal_ok hz2) (.bool _)⟩
     subst hok
     simp only [Instr.typeAssert, Sem.run_bind, run_und hu, Result.andThen_ok]
     cases d <;> first | exact absurd rfl (hni _) | simp [run_zero hi hz1, hq]
    ·cases h
   ·cases h
 ·cases h
theorem run_getObj_iter {r : Nat} {s : ByteArray} {pos : Nat} (h : w.heap[r]? = some (.stringIter s pos)) : (getObj r).run P w = .ok (.stringIter s pos) w := by simp [getObj, Sem.run, h]
theorem run_setObj_iter {r : Nat} {s : ByteArray} {pos : Nat} (h : w.heap[r]? = some (.stringIter s pos)) (o : Obj) : (setObj r o).run P w = .ok () { w with heap := w.heap.setIfInBounds r o } := by simp [setObj, Sem.run, h]
theorem range_ok (hr : Rel B G σ hp w) (hB : B ≤ w.heap.size) {t : TypeId} {x : AV} {vx : Value} {r : R} (hf : Fresh σ nx r.nx) (h : doRange P hp nx t x = some r) (hx : Rv σ x vx) : OkV P B G σ hp nx w (Instr.range t vx) r := by
 unfold doRange at h
 split at h
 ·rename_i s hu
  simp only [rnew, Option.some.injEq] at h; subst h
  obtain ⟨u, rfl, rfl⟩ := hx.inv_str
  have hn := hf nx (Nat.le_refl _) (Nat.lt_succ_self _)
  obtain ⟨h1, h2⟩ := hr.new (z := 0) (b := .siter (ofBA u) 0) (o := .stringIter u 0) (w' := { w with heap := w.heap.push (.stringIter u 0) }) hB hn (.siter u 0) rfl rfl rfl rfl
  refine ⟨_, _, .pointer (some ⟨w.heap.size, 0, none⟩), ?_, .ptr _ _ _ 0 (Sg.put_same _ _ _), h1, h2⟩
  simp [Instr.range, run_und hu]
 ·rename_i kt et hu
  simp only [rnew, Option.some.injEq] at h; subst h
  rw [hx.inv_nilm]
  have hn := hf nx (Nat.le_refl _) (Nat.lt_succ_self _)
  obtain ⟨h1, h2⟩ := hr.new (z := 0) (b := .miter none 0 [] 0) (o := .mapIter none 0 #[] 0) (w' := { w with heap := w.heap.push (.mapIter none 0 #[] 0) }) hB hn (.miter0 0 #[] 0) rfl rfl rfl rfl
  refine ⟨_, _, .pointer (some ⟨w.heap.size, 0, none⟩), ?_, .ptr _ _ _ 0 (Sg.put_same _ _ _), h1, h2⟩
  simp [Instr.range, run_und hu]
 ·rename_i kt et id hu
  split at h
  ·rename_i wr es c hg
   simp only [rnew, Option.some.injEq] at h; subst h
   obtain ⟨b, z, hσ, rfl⟩ := hx.inv_map
   obtain ⟨k, z', o, hσ', hk, hro, _⟩ := hr.blk id _ hg
   rw [hσ] at hσ'; simp at hσ'; obtain ⟨rfl, rfl⟩ := hσ'
   cases hro with
   | map _ _ A _ hl hA =>
    have hn := hf nx (Nat.le_refl _) (Nat.lt_succ_self _)
    have hsub : Sub σ (σ.put nx (w.heap.size, 0)) := Sub.put _ hn
    obtain ⟨h1, h2⟩ := hr.new (z := 0) (b := .miter (some id) c [] c) (o := .mapIter (some b) c #[] c) (w' := { w with heap := w.heap.push (.mapIter (some b) c #[] c) }) hB hn (.miter id b z c #[] c (hsub _ _ hσ)) rfl rfl rfl rfl
    refine ⟨_, _, .pointer (some ⟨w.heap.size, 0, none⟩), ?_, .ptr _ _ _ 0 (Sg.put_same _ _ _), h1, h2⟩
    simp [Instr.range, run_und hu, getObj, Sem.run, hk]
  ·cases h
 ·cases h
theorem hasB_iff {x : Nat} : ∀ {l : List Nat}, hasB x l = l.contains x := by
 intro l
 induction l with
 | nil => rfl
 | cons y l ih =>
  simp only [hasB, List.contains_cons]
  by_cases e : x = y
  ·subst e; simp [beq_t]
  ·rw [beq_f e]; simp [ih, e]
theorem leftA_mem {seen : List Nat} {x : AV × AV × Nat} : ∀ {es : List (AV × AV × Nat)}, x ∈ leftA seen es ↔ x ∈ es ∧ seen.contains x.2.2 = false := by
 intro es
 induction es with
 | nil => simp [leftA]
 | cons e es ih =>
  simp only [leftA]
  cases hq : hasB e.2.2 seen with
  | true =>
   simp only [cond_true, ih, List.mem_cons]
   rw [hasB_iff] at hq
   constructor
   ·rintro ⟨h1, h2⟩; exact ⟨.inr h1, h2⟩
   ·rintro ⟨rfl | h1, h2⟩
    ·rw [hq] at h2; cases h2
    ·exact ⟨h1, h2⟩
  | false =>
   simp only [cond_false, List.mem_cons, ih]
   rw [hasB_iff] at hq
   constructor
   ·rintro (rfl | ⟨h1, h2⟩)
    ·exact ⟨.inl rfl, hq⟩
    ·exact ⟨.inr h1, h2⟩
   ·rintro ⟨rfl | h1, h2⟩
    ·exact .inl rfl
    ·exact .inr ⟨h1, h2⟩
theorem oldA_iff {n : Nat} : ∀ {es : List (AV × AV × Nat)}, oldA n es = true ↔ ∀ e ∈ es, e.2.2 < n := by
 intro es
 induction es with
 | nil => simp [oldA]
 | cons e es ih =>
  simp only [oldA, List.mem_cons, forall_eq_or_imp]
  cases hq : Nat.blt e.2.2 n with
  | true => rw [blt_iff] at hq; simp [ih, hq]
  | false => rw [blt_iff_f] at hq; simp; omega
theorem pickRs_mem {nx id m since c : Nat} {seen : List Nat} {x : AV × AV × Nat} : ∀ {es : List (AV × AV × Nat)}, x ∈ es → pickR nx id m since seen c x ∈ pickRs nx id m since seen c es := by
 intro es
 induction es with
 | nil => simp
 | cons e es ih =>
  intro h
  simp only [pickRs, List.mem_cons]
  rcases List.mem_cons.1 h with rfl | h
  ·exact .inl rfl
  ·exact .inr (ih h)
theorem run_next_left {r bm since c0 : Nat} {seen : Array Nat} {es : Array MapEntry} {clock : Nat} {ty : TypeId} (hr : w.heap[r]? = some (.mapIter (some bm) since seen c0)) (hb : w.heap[bm]? = some (.map es clock))
  (hold : ∀ x ∈ es.toList, x.born < since) (hsc : since ≤ c0) :
  ((∀ e ∈ es.toList, seen.contains e.born = true) ∧ (Instr.next (.pointer (some ⟨r, 0, none⟩)) false ty).run P w = .ok (.tuple #[.bool false]) w) ∨
  ∃ e ∈ es.toList, seen.contains e.born = false ∧ ∃ n, (Instr.next (.pointer (some ⟨r, 0, none⟩)) false ty).run P w = .ok (.tuple #[.bool true, e.key, e.val]) { w with heap := w.heap.setIfInBounds r (.mapIter (some bm) since (seen.push e.born) clock), drawn := n } := by
 rcases run_next_at (P := P) w ty r bm since c0 seen es clock hr hb hold hsc with ⟨h0, h1⟩ | ⟨e, he, w1, hw1, hrun⟩
 ·refine .inl ⟨fun e he => ?_, h1⟩
  cases hq : seen.contains e.born with
  | true => rfl
  | false =>
   have hm : e ∈ leftOf es seen := by
    unfold leftOf
    simp only [Array.mem_filter, hq, Bool.not_false, and_true]
    simpa using he
   have := Array.eq_empty_of_size_eq_zero h0
   rw [this] at hm; simp at hm
 ·obtain ⟨g1, g2⟩ := mem_left he
  refine .inr ⟨e, g1, g2, ?_⟩
  rcases hw1 with rfl | rfl
  ·exact ⟨w1.drawn, hrun⟩
  ·exact ⟨w.drew.drawn, hrun⟩
theorem mapOf {id : Nat} {wr : Bool} {es : List (AV × AV × Nat)} {c : Nat} (hr : Rel B G σ hp w) (hg : hp.get id = some (.map wr es c)) {b z : Nat} (hσ : σ id = some (b, z)) :
  ∃ A : Array MapEntry, w.heap[b]? = some (.map A c) ∧ es.length = A.size ∧ ∀ (i : Nat) x e, es[i]? = some x → A[i]? = some e → Rv σ x.1 e.key ∧ Rv σ x.2.1 e.val ∧ e.born = x.2.2 := by
 obtain ⟨k, z', o, hσ', hk, hro, _⟩ := hr.blk id _ hg
 rw [hσ] at hσ'; simp at hσ'; obtain ⟨rfl, rfl⟩ := hσ'
 cases hro with
 | map _ _ A _ hl hA => exact ⟨A, hk, hl, hA⟩
theorem aget (A : Array MapEntry) (i : Nat) (h : i < A.toList.length) : A[i]? = some (A.toList[i]) := by
 have hs : i < A.size := by simpa using h
 simp [hs]
theorem picks_ok (hr : Rel B G σ hp w) {t : TypeId} {it : AV} {isS : Bool} {vi : Value} {l : List R} (h : picks hp nx it isS = some l) (hi : Rv σ it vi) :
  (l = [] ∧ (Instr.next vi isS t).run P w = .ok (.tuple #[.bool false]) w) ∨ ∃ r ∈ l, r.nx = nx ∧ OkV P B G σ hp nx w (Instr.next vi isS t) r := by
 unfold picks at h
 split at h
 ·rename_i id
  obtain ⟨b, z, hσ, rfl⟩ := hi.inv_ptr
  split at h
  ·rename_i m since seen st hg
   split at h
   ·rename_i wr es c hm
    rcases cond_eq_some h with ⟨hq, h'⟩ | ⟨_, h'⟩ <;> clear h
    ·simp only [Bool.and_eq_true] at hq
     have hold := oldA_iff.1 hq.1
     have hsc := ble_iff.1 hq.2
     simp only [Option.some.injEq] at h'; subst h'
     obtain ⟨k, z', o, hσ', hk, hro, _⟩ := hr.blk id _ hg
     rw [hσ] at hσ'; simp at hσ'; obtain ⟨rfl, rfl⟩ := hσ'
     cases hro with
     | miter _ bm zm _ sn _ hσm =>
      obtain ⟨A, hA, hl, hpt⟩ := mapOf hr hm hσm
      have hidx : ∀ e ∈ A.toList, ∃ x ∈ es, Rv σ x.1 e.key ∧ Rv σ x.2.1 e.val ∧ e.born = x.2.2 := fun e he => by
       obtain ⟨i, hi, rfl⟩ := List.getElem_of_mem he
       have hi' : i < es.length := by simpa [hl] using hi
       refine ⟨es[i], List.getElem_mem hi', hpt i _ _ (List.getElem?_eq_getElem hi') (aget A i hi)⟩
      have hidx2 : ∀ x ∈ es, ∃ e ∈ A.toList, e.born = x.2.2 := fun x hx => by
       obtain ⟨i, hi, rfl⟩ := List.getElem_of_mem hx
       have hi' : i < A.size := by simpa [hl] using hi
       exact ⟨A[i], by simp, (hpt i _ _ (List.getElem?_eq_getElem hi) (by simp [hi'])).2.2⟩
      rcases run_next_left (P := P) (ty := t) hk hA (fun e he => by obtain ⟨x, hx, _, _, e1⟩ := hidx e he; rw [e1]; exact hold x hx) hsc with ⟨hall, hrun⟩ | ⟨e, he, hns, n, hrun⟩
      ·refine .inl ⟨?_, hrun⟩
       have : leftA sn.toList es = [] := by
        refine List.eq_nil_iff_forall_not_mem.2 fun x hx => ?_
        obtain ⟨h1, h2⟩ := leftA_mem.1 hx
        obtain ⟨e, he, e1⟩ := hidx2 x h1
        have := hall e he
        rw [e1, ← Array.contains_toList] at this
        rw [this] at h2; cases h2
       rw [this]; rfl
      ·obtain ⟨x, hx, hk1, hv1, e1⟩ := hidx e he
       have hxl : x ∈ leftA sn.toList es := leftA_mem.2 ⟨hx, by rw [Array.contains_toList, ← e1]; exact hns⟩
       refine .inr ⟨_, pickRs_mem hxl, rfl, ?_⟩
       have hlt := (Array.getElem?_eq_some_iff.1 hk).1
       have hpush : Ro σ z (.miter (some m) since (sn.toList ++ [x.2.2]) c) (.mapIter (some bm) since (sn.push e.born) c) := by
        have := Ro.miter (σ := σ) (sz := z) m bm zm since (sn.push e.born) c hσm
        rw [Array.toList_push] at this
        rw [← e1]; exact this
       obtain ⟨h1, h2⟩ := hr.set (w' := { w with heap := w.heap.setIfInBounds b (.mapIter (some bm) since (sn.push e.born) c), drawn := n }) (b' := .miter (some m) since (sn.toList ++ [x.2.2]) c) hg rfl hσ
        (o' := .mapIter (some bm) since (sn.push e.born) c) (by simp [hlt]) hpush rfl (by simp) (fun j hj => by simp [Array.getElem?_setIfInBounds_ne (Ne.symm hj)]) rfl rfl rfl nx
       exact ⟨σ, _, .tuple #[.bool true, e.key, e.val], hrun, .tup _ [.bool true, e.key, e.val] rfl (RL.cons (.bool _) (.cons hk1 (.cons hv1 .nil))).2, h1, h2⟩
    ·cases h'
   ·cases h
  ·cases h
 ·cases h
theorem lastN_back : ∀ (l : List Nat) (b : Nat), lastN l = some b → l.getLast? = some b := by
 intro l
 induction l with
 | nil => intro b h; cases h
 | cons x l ih =>
  intro b h
  cases l with
  | nil => simpa [lastN] using h
  | cons y l => simp only [lastN] at h; rw [List.getLast?_cons_cons]; exact ih b h
theorem bornV_find {b : Nat} {x : AV} : ∀ {es : List (AV × AV × Nat)} {as : List MapEntry}, bornV b es = some x → es.length = as.length → (∀ (i : Nat) x e, es[i]? = some x → as[i]? = some e → Rv σ x.1 e.key ∧ Rv σ x.2.1 e.val ∧ e.born = x.2.2) →
  ∃ e, as.find? (·.born == b) = some e ∧ Rv σ x (.tuple #[e.key, e.val]) := by
 intro es
 induction es with
 | nil => intro as h; cases h
 | cons y es ih =>
  intro as h hl hpt
  cases as with
  | nil => simp at hl
  | cons e as =>
   obtain ⟨g1, g2, g3⟩ := hpt 0 y e rfl rfl
   simp only [bornV] at h
   rcases cond_eq_some h with ⟨hq, h'⟩ | ⟨hq, h'⟩
   ·have hq := beq_iff.1 hq
    simp only [Option.some.injEq] at h'; subst h'
    refine ⟨e, by simp [g3, hq], .tup _ [e.key, e.val] rfl (RL.cons g1 (.cons g2 .nil)).2⟩
   ·have hq := beq_iff_f.1 hq
    obtain ⟨e', h1, h2⟩ := ih h' (by simpa using hl) (fun i x e hx he => hpt (i + 1) x e (by simpa using hx) (by simpa using he))
    refine ⟨e', ?_, h2⟩
    rw [List.find?_cons_of_neg (by simp [g3, hq])]; exact h1
theorem entry_ok (hr : Rel B G σ hp w) {it : AV} {vi : Value} {r : R} (h : doEntry hp nx it = some r) (hi : Rv σ it vi) : OkV P B G σ hp nx w (Instr.entry vi) r := by
 unfold doEntry at h
 split at h
 ·rename_i id
  obtain ⟨b, z, hσ, rfl⟩ := hi.inv_ptr
  split at h
  ·rename_i m since seen st hg
   split at h
   ·rename_i wr es c bb hm hlast
    rcases cond_eq_some h with ⟨hq, h'⟩ | ⟨_, h'⟩ <;> clear h
    ·have hq := beq_iff.1 hq
     obtain ⟨k, z', o, hσ', hk, hro, _⟩ := hr.blk id _ hg
     rw [hσ] at hσ'; simp at hσ'; obtain ⟨rfl, rfl⟩ := hσ'
     cases hro with
     | miter _ bm zm _ sn _ hσm =>
      obtain ⟨A, hA, hl, hpt⟩ := mapOf hr hm hσm
      have hback : sn.back? = some bb := by
       have := lastN_back _ _ hlast
       simpa using this
      refine .rvO hr h' fun y hy => ?_
      obtain ⟨e, h1, h2⟩ := bornV_find (σ := σ) (as := A.toList) hy (by simpa using hl) (fun i x e hx he => hpt i x e hx (by simpa using he))
      refine ⟨.tuple #[e.key, e.val], ?_, h2⟩
      rw [Array.find?_toList] at h1
      simp only [Instr.entry, getObj, Sem.run_bind, Sem.run, hk, hA, Result.andThen, hback, hq, bne_self_eq_false, Bool.false_eq_true, if_false, h1]
      rfl
    ·cases h'
   ·cases h
  ·cases h
 ·cases h
theorem next_ok (hr : Rel B G σ hp w) {t : TypeId} {it : AV} {isS : Bool} {vi : Value} {r : R} (h : doNext hp nx it isS = some r) (hi : Rv σ it vi) : OkV P B G σ hp nx w (Instr.next vi isS t) r := by
 unfold doNext at h
 split at h
 ·rename_i id
  obtain ⟨b, z, hσ, rfl⟩ := hi.inv_ptr
  split at h
  ·rename_i s pos hg
   obtain ⟨k, z', o, hσ', hk, hro, hB⟩ := hr.blk id _ hg
   rw [hσ] at hσ'; simp at hσ'; obtain ⟨rfl, rfl⟩ := hσ'
   cases hro with
   | siter u _ =>
    have hgo : (getObj b).run P w = .ok (.stringIter u pos) w := run_getObj_iter hk
    split at h
    ·rename_i hnone
     rw [nthS_get] at hnone
     have hlen : (ofBA u).length ≤ pos := by simpa using hnone
     rw [ofBA_length] at hlen
     refine .rv hr h ⟨.tuple #[.bool false], ?_, .tup [.bool false] [.bool false] rfl (RL.cons (.bool _) .nil).2⟩
     simp only [Instr.next, Sem.run_bind, hgo, Result.andThen_ok]
     simp [Nat.not_lt.2 hlen]
    ·rename_i bb hsome
     rw [nthS_get] at hsome
     rcases cond_eq_some h with ⟨hq, h'⟩ | ⟨_, h'⟩ <;> clear h
     ·have hq := blt_iff.1 hq
      simp only [rset, Option.some.injEq] at h'; subst h'
      have hlt : pos < u.size := by rw [← ofBA_length]; exact (List.getElem?_eq_some_iff.1 hsome).1
      have hbb : (u[pos]'hlt).toNat = bb := by
       simp only [ofBA, List.getElem?_map, Option.map_eq_some_iff] at hsome
       obtain ⟨b', hb', e⟩ := hsome
       rw [Array.getElem?_toList] at hb'
       have := (Array.getElem?_eq_some_iff.1 hb').2
       rw [← e, ← this]; rfl
      have hdec := decode_ascii u pos hlt (by rw [hbb]; exact hq)
      rw [hbb] at hdec
      obtain ⟨h1, h2⟩ := hr.set (w' := { w with heap := w.heap.setIfInBounds b (.stringIter u (pos + 1)) }) (b' := .siter (ofBA u) (pos + 1)) hg rfl hσ (o' := .stringIter u (pos + 1)) (by have := (Array.getElem?_eq_some_iff.1 hk).1; simp [this]) (.siter u _) rfl (by simp) (fun j hj => by simp [Array.getElem?_setIfInBounds_ne (Ne.symm hj)]) rfl rfl rfl nx
      refine ⟨σ, _, .tuple #[.bool true, goInt pos, .int .i32 bb], ?_, .tup _ [.bool true, goInt pos, .int .i32 bb] rfl (RL.cons (.bool _) (.cons (.int _ _) (.cons (.int _ _) .nil))).2, h1, h2⟩
      simp only [Instr.next, Sem.run_bind, hgo, Result.andThen_ok, hdec]
      simp [hlt, run_setObj_iter hk]
     ·cases h'
  ·cases h
 ·rename_i id
  split at h
  ·rename_i hg
   obtain ⟨b, z, hσ, rfl⟩ := hi.inv_ptr
   obtain ⟨k, z', o, hσ', hk, hro, hB⟩ := hr.blk id _ hg
   rw [hσ] at hσ'; simp at hσ'; obtain ⟨rfl, rfl⟩ := hσ'
   cases hro with
   | miter0 _ sn _ =>
    refine .rv hr h ⟨.tuple #[.bool false], ?_, .tup [.bool false] [.bool false] rfl (RL.cons (.bool _) .nil).2⟩
    simp [Instr.next, getObj, Sem.run, hk]
  ·split at h
   ·rename_i hpk
    rcases picks_ok (P := P) (t := t) hr hpk hi with ⟨_, hrun⟩ | ⟨r', hr', _⟩
    ·exact .rv hr h ⟨.tuple #[.bool false], hrun, .tup [.bool false] [.bool false] rfl (RL.cons (.bool _) .nil).2⟩
    ·cases hr'
   ·rename_i r' hpk
    simp only [Option.some.injEq] at h; subst h
    rcases picks_ok (P := P) (t := t) hr hpk hi with ⟨h0, _⟩ | ⟨r2, hr2, _, hok⟩
    ·cases h0
    ·simp only [List.mem_singleton] at hr2; subst hr2; exact hok
   ·cases h
  ·cases h
 ·cases h
end
end Go.Ex
set_option linter.unusedVariables false
set_option linter.unusedSimpArgs false
namespace Go.Ex

section
variable {P : Program} {B G : Nat} {σ : Sg} {hp : Tr Blk} {nx : Nat} {w : World}

def RU (σ : Sg) (es : List (AV × AV)) (ms : List MapEntry) : Prop :=
 es.length = ms.length ∧ ∀ (i : Nat) x e, es[i]? = some x → ms[i]? = some e → Rv σ x.1 e.key ∧ Rv σ x.2 e.val
theorem RU.nil : RU σ [] [] := ⟨rfl, fun i x e h _ => by simp at h⟩
theorem RU.cons {x : AV × AV} {e : MapEntry} {es : List (AV × AV)} {ms : List MapEntry} (hx : Rv σ x.1 e.key ∧ Rv σ x.2 e.val) (h : RU σ es ms) : RU σ (x :: es) (e :: ms) :=
 ⟨by simp [h.1], fun i y f hy hf => by
  cases i with
  | zero => simp at hy hf; subst hy; subst hf; exact hx
  | succ i => simp at hy hf; exact h.2 i y f hy hf⟩
theorem RU.uncons {x : AV × AV} {es : List (AV × AV)} {ms : List MapEntry} (h : RU σ (x :: es) ms) : ∃ e ms', ms = e :: ms' ∧ (Rv σ x.1 e.key ∧ Rv σ x.2 e.val) ∧ RU σ es ms' := by
 cases ms with
 | nil => have := h.1; simp at this
 | cons e ms' => exact ⟨e, ms', rfl, h.2 0 x e rfl rfl, by have := h.1; simpa using this, fun i y f hy hf => h.2 (i + 1) y f (by simpa using hy) (by simpa using hf)⟩
theorem RU.of_nil {ms : List MapEntry} (h : RU σ [] ms) : ms = [] := List.eq_nil_of_length_eq_zero (by simpa using h.1.symm)
theorem RU.append {es fs : List (AV × AV)} {ms ns : List MapEntry} (h : RU σ es ms) (k : RU σ fs ns) : RU σ (es ++ fs) (ms ++ ns) := by
 induction es generalizing ms with
 | nil => rw [h.of_nil]; simpa using k
 | cons x es ih => obtain ⟨e, ms', rfl, hx, hr⟩ := h.uncons; exact .cons hx (ih hr)
theorem findU_ok {kind : TypeDesc} {k : AV} {ck : Value} (hk : Rv σ k ck) : ∀ {es : List (AV × AV)} {ms : List MapEntry} {r : Option (List (AV × AV) × (AV × AV) × List (AV × AV))}, RU σ es ms → findU kind k es = some r →
  (r = none → ∀ e, e ∈ ms → Instr.sameNow kind ck e.key = some false) ∧
  (∀ l1 y l2, r = some (l1, y, l2) → ∃ m1 e m2, ms = m1 ++ e :: m2 ∧ RU σ l1 m1 ∧ RU σ l2 m2 ∧ Rv σ y.1 e.key ∧ Rv σ y.2 e.val ∧ keyEq kind k y.1 = some true ∧ ∀ f, f ∈ m1 ++ m2 → Instr.sameNow kind ck f.key = some false) := by
 intro es
 induction es with
 | nil =>
  intro ms r h hf
  rw [h.of_nil]
  simp only [findU, Option.some.injEq] at hf; subst hf
  exact ⟨fun _ e he => by simp at he, fun _ _ _ e => by cases e⟩
 | cons x es ih =>
  intro ms r h hf
  obtain ⟨e, ms', rfl, ⟨h1, h2⟩, h4⟩ := h.uncons
  simp only [findU] at hf
  split at hf
  ·rename_i hq hrec
   simp only [Option.some.injEq] at hf; subst hf
   refine ⟨fun e => (by cases e), fun l1 y l2 e' => ?_⟩
   simp only [Option.some.injEq, Prod.mk.injEq] at e'
   obtain ⟨rfl, rfl, rfl⟩ := e'
   exact ⟨[], e, ms', rfl, .nil, h4, h1, h2, hq, fun f hf => (ih h4 hrec).1 rfl f (by simpa using hf)⟩
  ·rename_i hq hrec
   simp only [Option.some.injEq] at hf; subst hf
   refine ⟨fun _ f hf => ?_, fun _ _ _ e => by cases e⟩
   rcases List.mem_cons.1 hf with rfl | hf
   ·exact keyEq_ok hq hk h1
   ·exact (ih h4 hrec).1 rfl f hf
  ·rename_i l1 y l2 hq hrec
   simp only [Option.some.injEq] at hf; subst hf
   refine ⟨fun e => (by cases e), fun l1' y' l2' e' => ?_⟩
   simp only [Option.some.injEq, Prod.mk.injEq] at e'
   obtain ⟨rfl, rfl, rfl⟩ := e'
   obtain ⟨m1, e0, m2, g1, g2, g3, g4, g5, g6, g7⟩ := (ih h4 hrec).2 _ _ _ rfl
   refine ⟨e :: m1, e0, m2, by rw [g1]; rfl, .cons ⟨h1, h2⟩ g2, g3, g4, g5, g6, fun f hf => ?_⟩
   rcases List.mem_cons.1 hf with rfl | hf
   ·exact keyEq_ok hq hk h1
   ·exact g7 f hf
  ·cases hf
theorem findNow_none {kind : TypeDesc} {ck : Value} : ∀ {ms : List MapEntry} {i : Nat}, (∀ e, e ∈ ms → Instr.sameNow kind ck e.key = some false) → Instr.findNow kind ck ms i = some none := by
 intro ms
 induction ms with
 | nil => intro i _; rfl
 | cons e ms ih => intro i h; simp [Instr.findNow, h e (by simp), ih (i := i + 1) fun f hf => h f (by simp [hf])]
theorem findNow_some {kind : TypeDesc} {ck : Value} {e : MapEntry} {m2 : List MapEntry} (he : Instr.sameNow kind ck e.key = some true) : ∀ {m1 : List MapEntry} {i : Nat}, (∀ f, f ∈ m1 → Instr.sameNow kind ck f.key = some false) →
  Instr.findNow kind ck (m1 ++ e :: m2) i = some (some (i + m1.length, e.val)) := by
 intro m1
 induction m1 with
 | nil => intro i _; simp [Instr.findNow, he]
 | cons f m1 ih => intro i h; simp [Instr.findNow, h f (by simp), ih (i := i + 1) fun f hf => h f (by simp [hf])]; omega
theorem Rel.umap (hr : Rel B G σ hp w) {id : Nat} {wr : Bool} {es : List (AV × AV)} {c : Nat} (h : hp.get id = some (.umap wr es c)) {b z : Nat} (hσ : σ id = some (b, z)) :
  ∃ a ms, w.heap[b]? = some (.map a c) ∧ List.Perm ms a.toList ∧ RU σ es ms := by
 obtain ⟨k, z', ob, hs, hk, hro, hB⟩ := hr.blk id _ h
 rw [hσ] at hs; simp at hs; obtain ⟨rfl, rfl⟩ := hs
 cases hro with
 | umap _ _ a ms _ hp hl h => exact ⟨a, ms, hk, hp, hl, h⟩
theorem split_perm {ms ns : List MapEntry} {m1 m2 : List MapEntry} {e : MapEntry} (hp : List.Perm ms ns) (hm : ms = m1 ++ e :: m2) : ∃ n1 n2, ns = n1 ++ e :: n2 ∧ List.Perm (m1 ++ m2) (n1 ++ n2) := by
 subst hm
 have he : e ∈ ns := hp.subset (by simp)
 obtain ⟨n1, n2, rfl⟩ := List.append_of_mem he
 refine ⟨n1, n2, rfl, ?_⟩
 have h1 : List.Perm (e :: (m1 ++ m2)) (m1 ++ e :: m2) := List.perm_middle.symm
 have h2 : List.Perm (n1 ++ e :: n2) (e :: (n1 ++ n2)) := List.perm_middle
 exact ((h1.trans hp).trans h2).cons_inv
theorem lookupU_ok (hr : Rel B G σ hp w) {t : TypeId} {m k : AV} {cm ck : Value} {ok : Bool} {r : R} (h : doLookupU P hp nx t m k ok = some r) (hm : Rv σ m cm) (hk : Rv σ k ck) : OkV P B G σ hp nx w (Instr.lookup t cm ck ok) r := by
 unfold doLookupU at h
 split at h
 ·rename_i kt et id hu
  split at h
  ·rename_i kind wr es c z hkind hg hz
   rcases cond_eq_some h with ⟨hpk, h⟩ | ⟨_, h⟩
   ·obtain ⟨i, zv, hi, hz1, hz2⟩ := zeroA_spec hz
    have hzr : Rv σ z zv := ofVal_ok hz2
    have chk : ∀ e, (Instr.checkKey e 10000 kt ck).run P w = .ok () w := fun e => run_checkKey hkind hpk hk e 9999
    have fin : ∀ (v : AV) (cv : Value) (b : Bool), Rv σ v cv → Rv σ (bif ok then .tup [v, .bool b] else v) (if ok = true then .tuple #[cv, .bool b] else cv) := by
     intro v cv b hv
     cases ok
     ·exact hv
     ·exact .tup [v, .bool b] [cv, .bool b] rfl (RL.cons hv (.cons (.bool b) .nil)).2
    obtain ⟨b, zz, hs, rfl⟩ := hm.inv_map
    obtain ⟨a, ms, hh, hp, he⟩ := hr.umap hg hs
    split at h
    ·rename_i l1 y l2 hf
     obtain ⟨m1, e, m2, g1, g2, g3, g4, g5, g6, g7⟩ := (findU_ok hk he hf).2 _ _ _ rfl
     obtain ⟨n1, n2, hn, hpn⟩ := split_perm hp g1
     have hfk := run_findKey (P := P) (w := w) hkind (r := some (n1.length, e.val)) (ms := a.toList) (ck := ck) (by
      rw [hn, findNow_some (keyEq_ok g6 hk g4) fun f hf => g7 f (hpn.symm.subset (by simp [hf]))]; simp)
     refine OkV.rv hr h ⟨_, ?_, fin y.2 e.val true g5⟩
     simp only [Instr.lookup, Sem.run_bind, run_und hu, Result.andThen_ok, Sem.run_pure, run_getMap hh, chk, hfk]
    ·rename_i hf
     have hfk := run_findKey (P := P) (w := w) hkind (r := none) (ms := a.toList) (ck := ck) (findNow_none fun e he' => (findU_ok hk he hf).1 rfl e (hp.symm.subset he'))
     refine OkV.rv hr h ⟨_, ?_, fin z zv false hzr⟩
     simp only [Instr.lookup, Sem.run_bind, run_und hu, Result.andThen_ok, Sem.run_pure, run_getMap hh, chk, hfk, run_zero hi hz1]
    ·cases h
   ·cases h
  ·cases h
 ·cases h
theorem umap_turn (hr : Rel B G σ hp w) {id k z : Nat} {es es' : List (AV × AV)} {a a' : Array MapEntry} {ms : List MapEntry} {c c' : Nat} (hg : hp.get id = some (.umap true es c)) (hs : σ id = some (k, z)) (hh : w.heap[k]? = some (.map a c)) (hp' : List.Perm ms a'.toList) (he : RU σ es' ms) :
  Rel B G σ (hp.set id (some (.umap true es' c'))) { w with heap := w.heap.setIfInBounds k (.map a' c') } ∧ Ext σ σ hp (hp.set id (some (.umap true es' c'))) nx nx w { w with heap := w.heap.setIfInBounds k (.map a' c') } := by
 have hlt : k < w.heap.size := (Array.getElem?_eq_some_iff.1 hh).1
 exact hr.set (w' := { w with heap := w.heap.setIfInBounds k (.map a' c') }) hg rfl hs (o' := .map a' c') (by simp [hlt]) (.umap true es' a' ms c' hp' he.1 he.2) rfl (by simp) (fun j hj => by simp [Array.getElem?_setIfInBounds_ne (Ne.symm hj)]) rfl rfl rfl nx
theorem modify_mid (a : Array MapEntry) (n1 n2 : List MapEntry) (e : MapEntry) (f : MapEntry → MapEntry) (h : a.toList = n1 ++ e :: n2) : (a.modify n1.length f).toList = n1 ++ f e :: n2 := by
 apply List.ext_getElem?
 intro i
 rw [Array.getElem?_toList, Array.getElem?_modify, ← Array.getElem?_toList, h]
 by_cases hi : n1.length = i
 ·subst hi; simp
 ·rw [if_neg hi]
  rcases Nat.lt_or_ge i n1.length with hlt | hge
  ·rw [List.getElem?_append_left hlt, List.getElem?_append_left hlt]
  ·rw [List.getElem?_append_right hge, List.getElem?_append_right hge]
   obtain ⟨d, hd⟩ : ∃ d, i - n1.length = d + 1 := ⟨i - n1.length - 1, by omega⟩
   rw [hd]; simp
theorem mapSetU_ok (hr : Rel B G σ hp w) {t : TypeId} {m k v : AV} {cm ck cv : Value} {r : R} (h : doMapSetU P hp nx t m k v = some r) (hm : Rv σ m cm) (hk : Rv σ k ck) (hv : Rv σ v cv) : OkU P B G σ hp nx w (Instr.mapUpdate t cm ck cv) r := by
 unfold doMapSetU at h
 split at h
 ·rename_i kt et id hu
  split at h
  ·rename_i kind es c hkind hg
   rcases cond_eq_some h with ⟨hpk, h⟩ | ⟨_, h⟩
   ·have chk : ∀ e, (Instr.checkKey e 10000 kt ck).run P w = .ok () w := fun e => run_checkKey hkind hpk hk e 9999
    obtain ⟨b, z, hs, rfl⟩ := hm.inv_map
    obtain ⟨a, ms, hh, hp, he⟩ := hr.umap hg hs
    split at h
    ·rename_i l1 y l2 hf
     simp only [rset, Option.some.injEq] at h; subst h
     obtain ⟨m1, e, m2, g1, g2, g3, g4, g5, g6, g7⟩ := (findU_ok hk he hf).2 _ _ _ rfl
     obtain ⟨n1, n2, hn, hpn⟩ := split_perm hp g1
     have hfk := run_findKey (P := P) (w := w) hkind (r := some (n1.length, e.val)) (ms := a.toList) (ck := ck) (by
      rw [hn, findNow_some (keyEq_ok g6 hk g4) fun f hf => g7 f (hpn.symm.subset (by simp [hf]))]; simp)
     have hks := keyStays (P := P) (w := w) g6 hk g4
     have hj : a[n1.length]? = some e := by rw [← Array.getElem?_toList, hn]; simp
     have hmod := modify_mid a n1 n2 e (fun e => { e with key := ck, val := cv }) hn
     obtain ⟨k1, k2⟩ := umap_turn (nx := nx) (c' := c) (a' := a.modify n1.length fun e => { e with key := ck, val := cv }) (es' := l1 ++ (k, v) :: l2) (ms := m1 ++ { e with key := ck, val := cv } :: m2) hr hg hs hh
      (by rw [hmod]; exact (List.perm_middle.trans (hpn.cons _)).trans List.perm_middle.symm) (g2.append (.cons ⟨hk, hv⟩ g3))
     refine ⟨σ, _, ?_, rfl, k1, k2⟩
     simp only [Instr.mapUpdate, Sem.run_bind, run_und hu, Result.andThen_ok, run_getMap hh, chk, hfk, hj, Option.map_some, Option.getD_some, hks, run_setMap hh]
    ·rename_i hf
     simp only [rset, Option.some.injEq] at h; subst h
     have hfk := run_findKey (P := P) (w := w) hkind (r := none) (ms := a.toList) (ck := ck) (findNow_none fun e he' => (findU_ok hk he hf).1 rfl e (hp.symm.subset he'))
     obtain ⟨k1, k2⟩ := umap_turn (nx := nx) (c' := c + 1) (a' := a.push { key := ck, val := cv, born := c }) (es' := es ++ [(k, v)]) (ms := ms ++ [{ key := ck, val := cv, born := c }]) hr hg hs hh
      (by rw [Array.toList_push]; exact hp.append_right _) (he.append (.cons ⟨hk, hv⟩ .nil))
     refine ⟨σ, _, ?_, rfl, k1, k2⟩
     simp only [Instr.mapUpdate, Sem.run_bind, run_und hu, Result.andThen_ok, run_getMap hh, chk, hfk, run_setMap hh]
    ·cases h
   ·cases h
  ·cases h
 ·cases h
theorem deleteU_ok (hr : Rel B G σ hp w) {t u ty : TypeId} {m k : AV} {cm ck : Value} {r : R} (h : doDeleteU P hp nx t m k = some r) (hm : Rv σ m cm) (hk : Rv σ k ck) : OkV P B G σ hp nx w (Builtin.delete_ #[t, u] ty #[cm, ck]) r := by
 unfold doDeleteU at h
 split at h
 ·rename_i kt et id hu
  split at h
  ·rename_i kind es c hkind hg
   rcases cond_eq_some h with ⟨hpk, h⟩ | ⟨_, h⟩
   ·have chk : ∀ e, (Instr.checkKey e 10000 kt ck).run P w = .ok () w := fun e => run_checkKey hkind hpk hk e 9999
    obtain ⟨b, z, hs, rfl⟩ := hm.inv_map
    obtain ⟨a, ms, hh, hp, he⟩ := hr.umap hg hs
    have hun : Rv σ unit (.tuple #[]) := .tup [] [] rfl (by simp)
    split at h
    ·rename_i l1 y l2 hf
     simp only [rset, Option.some.injEq] at h; subst h
     obtain ⟨m1, e, m2, g1, g2, g3, g4, g5, g6, g7⟩ := (findU_ok hk he hf).2 _ _ _ rfl
     obtain ⟨n1, n2, hn, hpn⟩ := split_perm hp g1
     have hfk := run_findKey (P := P) (w := w) hkind (r := some (n1.length, e.val)) (ms := a.toList) (ck := ck) (by
      rw [hn, findNow_some (keyEq_ok g6 hk g4) fun f hf => g7 f (hpn.symm.subset (by simp [hf]))]; simp)
     have her : (a.eraseIdxIfInBounds n1.length).toList = n1 ++ n2 := by
      rw [Array.toList_eraseIdxIfInBounds, hn, List.eraseIdx_append_of_length_le (Nat.le_refl _)]; simp
     obtain ⟨k1, k2⟩ := umap_turn (nx := nx) (c' := c) (a' := a.eraseIdxIfInBounds n1.length) (es' := l1 ++ l2) (ms := m1 ++ m2) hr hg hs hh (by rw [her]; exact hpn) (g2.append g3)
     refine ⟨σ, _, .tuple #[], ?_, hun, k1, k2⟩
     simp [Builtin.delete_, run_und hu, run_getMap hh, chk, hfk, run_setMap hh]
    ·rename_i hf
     simp only [rset, Option.some.injEq] at h; subst h
     have hfk := run_findKey (P := P) (w := w) hkind (r := none) (ms := a.toList) (ck := ck) (findNow_none fun e he' => (findU_ok hk he hf).1 rfl e (hp.symm.subset he'))
     obtain ⟨k1, k2⟩ := umap_turn (nx := nx) (c' := c) (a' := a) (es' := es) (ms := ms) hr hg hs hh hp he
     refine ⟨σ, _, .tuple #[], ?_, hun, k1, k2⟩
     simp [Builtin.delete_, run_und hu, run_getMap hh, chk, hfk, run_setMap hh]
    ·cases h
   ·cases h
  ·cases h
 ·cases h
theorem lenU_ok (hr : Rel B G σ hp w) {t ty : TypeId} {x : AV} {vx : Value} {r : R} (h : doLenU P hp nx t x = some r) (hx : Rv σ x vx) : OkV P B G σ hp nx w (Builtin.len_ #[t] ty #[vx]) r := by
 unfold doLenU at h
 split at h
 ·rename_i kt et id hu
  split at h
  ·rename_i wr es c hg
   obtain ⟨b, z, hs, rfl⟩ := hx.inv_map
   obtain ⟨a, ms, hh, hp, he⟩ := hr.umap hg hs
   have hlen : a.size = es.length := by rw [he.1, hp.length_eq]; simp
   refine OkV.rv hr h ⟨.int .i64 es.length, ?_, .int _ _⟩
   simp [Builtin.len_, run_und hu, run_getMap hh, goInt, hlen]
  ·cases h
 ·cases h
theorem orE_some {a b : Option R} {r : R} (h : orE a b = some r) : a = some r ∨ b = some r := by
 cases a with
 | some x => exact .inl h
 | none => exact .inr h
end
end Go.Ex
set_option linter.unusedVariables false
set_option linter.unusedSimpArgs false
namespace Go.Ex

section
variable {P : Program} {B G : Nat} {σ : Sg} {hp : Tr Blk} {nx : Nat} {w : World}

theorem len_ok (hr : Rel B G σ hp w) {t ty : TypeId} {x : AV} {vx : Value} {r : R} (h : doLen P hp nx t x = some r) (hx : Rv σ x vx) : OkV P B G σ hp nx w (Builtin.len_ #[t] ty #[vx]) r := by
 unfold doLen at h
 split at h
 ·rename_i hu
  split at h
  ·obtain ⟨s, rfl, rfl⟩ := hx.inv_str
   refine .rv hr h ⟨.int .i64 s.size, ?_, by rw [ofBA_length]; exact .int _ _⟩
   simp [Builtin.len_, run_und hu, goInt]
  ·cases h
 ·rename_i n e hu
  refine .rv hr h ⟨.int .i64 n, ?_, .int _ _⟩
  simp [Builtin.len_, run_und hu, goInt]
 ·rename_i e hu
  split at h
  ·rw [hx.inv_nils]
   refine .rv hr h ⟨.int .i64 0, ?_, .int _ _⟩
   simp [Builtin.len_, run_und hu, goInt]
  ·obtain ⟨a, c, rfl⟩ := hx.inv_sle
   refine .rv hr h ⟨.int .i64 0, ?_, .int _ _⟩
   simp [Builtin.len_, run_und hu, goInt]
  ·rename_i id off n cap es
   obtain ⟨b, z, c, _, rfl⟩ := hx.inv_sl
   refine .rv hr h ⟨.int .i64 n, ?_, .int _ _⟩
   simp [Builtin.len_, run_und hu, goInt]
  ·cases h
 ·rename_i k e hu
  split at h
  ·rename_i es hes
   unfold entriesA at hes
   split at hes
   ·simp only [Option.some.injEq] at hes; subst hes
    rw [hx.inv_nilm]
    refine .rv hr h ⟨.int .i64 0, ?_, .int _ _⟩
    simp [Builtin.len_, run_und hu, goInt]
   ·rename_i id
    split at hes
    ·rename_i wr es' c hg
     simp only [Option.some.injEq] at hes; subst hes
     obtain ⟨b, z, hs, rfl⟩ := hx.inv_map
     obtain ⟨kk, z', a, hs', hh, he, _⟩ := hr.map hg
     rw [hs] at hs'; simp at hs'; obtain ⟨rfl, rfl⟩ := hs'
     have hl : es'.length = a.size := by simpa using he.1
     refine .rv hr h ⟨.int .i64 a.size, ?_, by rw [hl]; exact .int _ _⟩
     simp [Builtin.len_, run_und hu, goInt, run_getMap hh]
    ·cases hes
   ·cases hes
  ·cases h
 ·cases h
theorem cap_ok (hr : Rel B G σ hp w) {t ty : TypeId} {x : AV} {vx : Value} {r : R} (h : doCap P nx t x = some r) (hx : Rv σ x vx) : OkV P B G σ hp nx w (Builtin.cap_ #[t] ty #[vx]) r := by
 unfold doCap at h
 split at h
 ·rename_i e hu
  rw [hx.inv_nils]
  refine .rv hr h ⟨.int .i64 0, ?_, .int _ _⟩
  simp [Builtin.cap_, run_und hu, goInt]
 ·rename_i e id off len n es hu
  obtain ⟨b, z, _, rfl⟩ := hx.inv_slc
  refine .rv hr h ⟨.int .i64 n, ?_, .int _ _⟩
  simp [Builtin.cap_, run_und hu, goInt]
 ·cases h
theorem maxI_eq (x y : Int) : maxI x y = if y > x then y else x := by
 unfold maxI; rw [ltI_eq]; by_cases h : x < y <;> simp [h]
theorem minI_eq (x y : Int) : minI x y = if y < x then y else x := by
 unfold minI; rw [ltI_eq]; by_cases h : y < x <;> simp [h]
theorem max_fold {k : IntKind} : ∀ {l : List AV} {vs : List Value} {x n : Int}, foldI maxI x l = some n → RL σ l vs → (vs.foldlM Builtin.max2 (.int k x)).run P w = .ok (.int k n) w := by
 intro l
 induction l with
 | nil => intro vs x n h hr; simp [foldI] at h; subst h; rw [hr.of_nil]; simp
 | cons a l ih =>
  intro vs x n h hr
  obtain ⟨v, us, rfl, hx, hr'⟩ := hr.uncons
  unfold foldI at h
  split at h
  ·rename_i heq; cases heq
  ·rename_i heq; cases heq
   rw [hx.inv_int]
   have := ih h hr'
   rw [maxI_eq] at this
   simp [Builtin.max2, this]
  ·cases h
theorem min_fold {k : IntKind} : ∀ {l : List AV} {vs : List Value} {x n : Int}, foldI minI x l = some n → RL σ l vs → (vs.foldlM Builtin.min2 (.int k x)).run P w = .ok (.int k n) w := by
 intro l
 induction l with
 | nil => intro vs x n h hr; simp [foldI] at h; subst h; rw [hr.of_nil]; simp
 | cons a l ih =>
  intro vs x n h hr
  obtain ⟨v, us, rfl, hx, hr'⟩ := hr.uncons
  unfold foldI at h
  split at h
  ·rename_i heq; cases heq
  ·rename_i heq; cases heq
   rw [hx.inv_int]
   have := ih h hr'
   rw [minI_eq] at this
   simp [Builtin.min2, this]
  ·cases h
theorem maxF_fold {k : FloatKind} : ∀ {l : List AV} {vs : List Value} {x n : Nat}, foldF (maxF k) x l = some n → RL σ l vs → (vs.foldlM Builtin.max2 (.float k x)).run P w = .ok (.float k n) w := by
 intro l
 induction l with
 | nil => intro vs x n h hr; simp [foldF] at h; subst h; rw [hr.of_nil]; simp
 | cons a l ih =>
  intro vs x n h hr
  obtain ⟨v, us, rfl, hx, hr'⟩ := hr.uncons
  unfold foldF at h
  split at h
  ·rename_i heq; cases heq
  ·rename_i heq; cases heq
   rw [hx.inv_flt]
   split at h
   ·rename_i r hr2
    have := ih h hr'
    unfold maxF at hr2
    split at hr2
    ·cases hr2
    all_goals (rename_i ho; simp only [Option.some.injEq] at hr2; subst hr2; simp only [List.foldlM_cons, Builtin.max2, ho, Sem.run_bind, Sem.run_pure, Result.andThen_ok]; exact this)
   ·cases h
  ·cases h
theorem minF_fold {k : FloatKind} : ∀ {l : List AV} {vs : List Value} {x n : Nat}, foldF (minF k) x l = some n → RL σ l vs → (vs.foldlM Builtin.min2 (.float k x)).run P w = .ok (.float k n) w := by
 intro l
 induction l with
 | nil => intro vs x n h hr; simp [foldF] at h; subst h; rw [hr.of_nil]; simp
 | cons a l ih =>
  intro vs x n h hr
  obtain ⟨v, us, rfl, hx, hr'⟩ := hr.uncons
  unfold foldF at h
  split at h
  ·rename_i heq; cases heq
  ·rename_i heq; cases heq
   rw [hx.inv_flt]
   split at h
   ·rename_i r hr2
    have := ih h hr'
    unfold minF at hr2
    split at hr2
    ·cases hr2
    all_goals (rename_i ho; simp only [Option.some.injEq] at hr2; subst hr2; simp only [List.foldlM_cons, Builtin.min2, ho, Sem.run_bind, Sem.run_pure, Result.andThen_ok]; exact this)
   ·cases h
  ·cases h
def OkN (P : Program) (B G : Nat) (σ : Sg) (hp : Tr Blk) (nx : Nat) (w : World) (s : Sem Next) (r : R) : Prop :=
 ∃ τ w' v, (s.run P w = .ok (.value v) w' ∨ (s.run P w = .ok .skip w' ∧ v = undef)) ∧ Rv τ r.v v ∧ Rel B G τ (app r.dl hp) w' ∧ Ext σ τ hp (app r.dl hp) nx r.nx w w'
theorem okV_n {s : Sem Value} {r : R} (h : OkV P B G σ hp nx w s r) : OkN P B G σ hp nx w (do pure (Next.value (← s))) r := by
 obtain ⟨τ, w', v, h1, h2, h3, h4⟩ := h
 exact ⟨τ, w', v, .inl (by simp [h1]), h2, h3, h4⟩
theorem okU_n {s : Sem Unit} {r : R} (h : OkU P B G σ hp nx w s r) : OkN P B G σ hp nx w (do s; pure Next.skip) r := by
 obtain ⟨τ, w', h1, h2, h3, h4⟩ := h
 exact ⟨τ, w', undef, .inr ⟨by simp [h1], rfl⟩, by rw [h2]; exact .tup [] [] rfl (by simp), h3, h4⟩
theorem okN_val (hr : Rel B G σ hp w) {x : AV} {v : Value} {r : R} (h : rv nx x = some r) (hx : Rv σ x v) : OkN P B G σ hp nx w (pure (Next.value v)) r := by
 rw [rv_some h]
 exact ⟨σ, w, v, .inl rfl, hx, hr, .refl ..⟩
theorem ev_ok (hr : Rel B G σ hp w) {sz : Nat} {tm : Tr AV} {a : Act} (ht : RT σ sz tm a.tmps) (x : Operand) : Rv σ (ev G tm x) (a.eval x) := by
 cases x with
 | tmp t =>
  simp only [ev, evR, slot_eq, Act.eval]
  cases h : tm.get t with
  | none => exact .junk _
  | some v =>
   obtain ⟨c, hc, hv⟩ := ht.2 t v h
   simpa [hc] using hv
 | const v =>
  simp only [ev, evR, constA, Act.eval]
  cases h : ofVal v with
  | none => exact .junk _
  | some a => exact ofVal_ok h
 | global g =>
  simp only [ev, evR, constA, Act.eval]
  cases h : Nat.blt g G with
  | false => exact .junk _
  | true =>
   obtain ⟨z, hz⟩ := hr.gl g (blt_iff.1 h)
   exact .ptr g 0 g z hz
 | func f => exact .fn f [] [] [] [] rfl rfl (by simp) (by simp)
theorem evs_ok (hr : Rel B G σ hp w) {sz : Nat} {tm : Tr AV} {a : Act} (ht : RT σ sz tm a.tmps) (xs : Array Operand) : RL σ (evs G tm xs) (xs.map a.eval).toList := by
 rw [evs_eq]
 rw [Array.toList_map]
 induction xs.toList with
 | nil => exact .nil
 | cons x l ih => exact .cons (ev_ok hr ht x) ih
theorem RO_map {ev : Operand → AV} {cev : Operand → Value} (he : ∀ x, Rv σ (ev x) (cev x)) (o : Option Operand) : RO σ (o.map ev) (o.map cev) := by
 cases o with
 | none => trivial
 | some x => exact he x
theorem list1 {α : Type} {a : Array α} {x : α} (h : a.toList = [x]) : a = #[x] := by rw [← Array.toArray_toList (xs := a), h]
theorem list2 {α : Type} {a : Array α} {x y : α} (h : a.toList = [x, y]) : a = #[x, y] := by rw [← Array.toArray_toList (xs := a), h]
theorem RL.one {x : AV} {vs : List Value} (h : RL σ [x] vs) : ∃ v, vs = [v] ∧ Rv σ x v := by
 obtain ⟨v, us, rfl, hx, hr⟩ := h.uncons
 rw [hr.of_nil]; exact ⟨v, rfl, hx⟩
theorem RL.two {x y : AV} {vs : List Value} (h : RL σ [x, y] vs) : ∃ v u, vs = [v, u] ∧ Rv σ x v ∧ Rv σ y u := by
 obtain ⟨v, us, rfl, hx, hr⟩ := h.uncons
 obtain ⟨u, rfl, hy⟩ := hr.one
 exact ⟨v, u, rfl, hx, hy⟩
theorem data_ok (hr : Rel B G σ hp w) {ts : Array TypeId} {ty : TypeId} {x : AV} {vx : Value} {r : R} (h : doData hp nx x = some r) (hx : Rv σ x vx) : OkV P B G σ hp nx w (Builtin.unsafeSliceData_ ts ty #[vx]) r := by
 unfold doData at h
 split at h
 ·rw [hx.inv_nils]
  exact .rv hr h ⟨.pointer none, Lib.run_unsafeSliceData_nil w ts ty 0 0, .nilp⟩
 ·rename_i id off len es
  split at h
  ·rename_i wr o tt l hg
   rcases cond_eq_some h with ⟨hlt, h'⟩ | ⟨_, h'⟩ <;> clear h
   ·have hlt := blt_iff.1 hlt
    obtain ⟨b, z, c, hσ, hcz, _, rfl⟩ := hx.inv_slo
    obtain ⟨k, z', cc, tc, fr, hs', hk, hz, ho, hl, _, _, _⟩ := hr.cells hg
    rw [hσ] at hs'; simp at hs'; obtain ⟨rfl, rfl⟩ := hs'
    have hc : c ≠ 0 := fun e => by subst e; omega
    exact .rv hr h' ⟨_, Lib.run_unsafeSliceData_row w ts ty _ _ _ hc, .ptr _ _ _ _ hσ⟩
   ·cases h'
  ·cases h
 ·cases h
theorem freeze_heap {P' : Program} (w : World) (b n : Nat) : (w.freeze ⟨b, 0, none⟩ n).heap.size = w.heap.size ∧ (∀ j, j ≠ b → (w.freeze ⟨b, 0, none⟩ n).heap[j]? = w.heap[j]?) ∧
  (w.freeze ⟨b, 0, none⟩ n).os = w.os ∧ (w.freeze ⟨b, 0, none⟩ n).tape = w.tape ∧ (w.freeze ⟨b, 0, none⟩ n).output = w.output := by
 unfold World.freeze
 split
 ·exact ⟨rfl, fun _ _ => rfl, rfl, rfl, rfl⟩
 ·refine ⟨by simp, fun j hj => ?_, rfl, rfl, rfl⟩
  simp only [Array.getElem?_modify]
  rw [if_neg (Ne.symm hj)]
theorem Rel.kill0 {w' : World} {hp : Tr Blk} {id kk z nx : Nat} {b : Blk} (h : Rel B G σ hp w) (hb : hp.get id = some b) (hw : b.wr = true) (hs : σ id = some (kk, z))
  (hsz : w'.heap.size = w.heap.size) (hoth : ∀ j, j ≠ kk → w'.heap[j]? = w.heap[j]?) (hos : w'.os = w.os) (htape : w'.tape = w.tape) (hout : w'.output = w.output) :
  Rel B G σ (hp.set id none) w' ∧ Ext σ σ hp (hp.set id none) nx nx w w' := by
 have hne : ∀ j c kj zj, j ≠ id → hp.get j = some c → σ j = some (kj, zj) → kj ≠ kk := by
  intro j c kj zj hj hc hsj e; subst e; exact hj (h.inj j id c b kj zj z hc hb hsj hs)
 have hg : ∀ j c, (hp.set id none).get j = some c → j ≠ id ∧ hp.get j = some c := fun j c hc => by
  by_cases hj : j = id
  ·subst hj; rw [Tr.get_set_same] at hc; cases hc
  ·rw [Tr.get_set_other _ _ hj] at hc; exact ⟨hj, hc⟩
 refine ⟨⟨fun j c hc => ?_, fun i j c d k zi zj hc hd => h.inj i j c d k zi zj (hg i c hc).2 (hg j d hd).2, h.gl⟩,
  ⟨.refl σ, fun _ _ h => .inl h, Nat.le_refl _, hos, htape, hout, Nat.le_of_eq hsz.symm, fun j _ hn => hoth j fun e => ?_, fun i c k z hc hs => .inl ⟨i, c, z, (hg i c hc).2, hs, fun e => e⟩⟩⟩
 ·obtain ⟨hj, hc⟩ := hg j c hc
  obtain ⟨kj, zj, oj, hsj, hoj, hrj, hBj⟩ := h.blk j c hc
  exact ⟨kj, zj, oj, hsj, by rw [hoth _ (hne j c kj zj hj hc hsj)]; exact hoj, hrj, hBj⟩
 ·subst e
  have := hn id b z hb hs; rw [hw] at this; cases this
theorem ofBA_of_nats {b : List Nat} (h : ∀ n ∈ b, n < 256) : ofBA ⟨(b.map UInt8.ofNat).toArray⟩ = b := by
 simp only [ofBA, List.map_map]
 induction b with
 | nil => rfl
 | cons n b ih =>
  simp only [List.map_cons, Function.comp]
  rw [ih fun m hm => h m (by simp [hm])]
  have : (UInt8.ofNat n).toNat = n := by have := h n (by simp); simp; omega
  rw [this]
theorem ustr_ok (hr : Rel B G σ hp w) {pt it ty : TypeId} {x y : AV} {vx vy : Value} {r : R} (h : doUStr P hp nx pt x y = some r) (hx : Rv σ x vx) (hy : Rv σ y vy) : OkV P B G σ hp nx w (Builtin.unsafeString_ #[pt, it] ty #[vx, vy]) r := by
 unfold doUStr at h
 split at h
 ·rw [hy.inv_int]
  split at h
  ·rw [hx.inv_nilp]
   exact .rv hr h ⟨_, Lib.run_unsafeString_none w pt it ty none, .str .empty⟩
  ·obtain ⟨b, z, hσ, rfl⟩ := hx.inv_ptr
   exact .rv hr h ⟨_, Lib.run_unsafeString_none w pt it ty _, .str .empty⟩
  ·cases h
 ·rename_i n hn0
  rw [hy.inv_int]
  split at h
  ·rename_i id
   split at h
   ·rename_i e o t l hpt hg
    rcases cond_eq_some h with ⟨hq, h'⟩ | ⟨_, h'⟩ <;> clear h
    ·simp only [Bool.and_eq_true] at hq
     have e1 := beq_iff.1 hq.1.1
     subst e1
     have hce := beq_iff.1 hq.1.2
     have hbig := blt_iff.1 hq.2
     split at h'
     ·rename_i cs hcs
      split at h'
      ·rename_i b hb
       simp only [Option.some.injEq] at h'; subst h'
       obtain ⟨bk, z, hσ, rfl⟩ := hx.inv_ptr
       obtain ⟨k, z', c, tc, fr, hs', hk, hcz, ho, hl, hfz, hc, hBk⟩ := hr.cells hg
       rw [hσ] at hs'; simp at hs'; obtain ⟨rfl, rfl⟩ := hs'
       have htc := hr.cellsT hg hσ hk _ rfl
       subst htc
       obtain ⟨g1, g2, g3⟩ := hc.sub hcs hl
       obtain ⟨e1, e2⟩ := bytes_spec hb g1
       have hlen : b.length = n := by
        have h1 := (sub_spec hcs).1
        have h2 := g1.1
        rw [e1, h1] at h2
        simpa using h2.symm
       have hnc : n ≤ c.size := by rcases g3 with h0 | h0 <;> omega
       have hbl : (b.map UInt8.ofNat) ≠ [] := fun e => by
        have : b = [] := List.map_eq_nil_iff.1 e
        subst this
        simp only [List.length_nil] at hlen
        subst hlen
        exact hn0 rfl
       have hrun := Lib.run_unsafeString_row (P := P) w pt it ty tc hpt hce bk c.size (shape_of hk) (b.map UInt8.ofNat) hbl (by simp [hlen]; exact hnc) (by simp [hlen]; omega) (fun j x hj => by
        rw [addr_add, cell_of hk]
        simp only [List.getElem?_map, Option.map_eq_some_iff] at hj
        obtain ⟨m, hm, rfl⟩ := hj
        have hjn : j < n := by rw [← hlen]; exact (List.getElem?_eq_some_iff.1 hm).1
        have h1 : ((c.toList.drop 0).take n)[j]? = some (.int .u8 (.ofNat m)) := by rw [e1, List.getElem?_map, hm]; rfl
        rw [List.getElem?_take, if_pos hjn, List.getElem?_drop, Array.getElem?_toList] at h1
        have hm2 := e2 m (List.mem_of_getElem? hm)
        have : (UInt8.ofNat m).toNat = m := by simp; omega
        rw [this]
        simpa using h1)
       rw [List.length_map, hlen] at hrun
       obtain ⟨k1, k2, k3, k4, k5⟩ := freeze_heap (P' := P) w bk n
       obtain ⟨q1, q2⟩ := hr.kill0 (nx := nx) hg rfl hσ k1 k2 k3 k4 k5
       refine ⟨σ, _, .string ⟨(b.map UInt8.ofNat).toArray⟩, hrun, ?_, q1, q2⟩
       have := Rv.str (σ := σ) ⟨(b.map UInt8.ofNat).toArray⟩
       rw [ofBA_of_nats e2] at this
       exact this
      ·cases h'
     ·cases h'
    ·cases h'
   ·cases h
  ·cases h
 ·cases h
theorem builtin_ok (hr : Rel B G σ hp w) (hB : B ≤ w.heap.size) {b : Builtin} {ts : Array TypeId} {ty : TypeId} {cs : Array Bool} {xs : List AV} {vs : Array Value} {r : R} (hf : Fresh σ nx r.nx)
  (h : doBuiltin P hp nx b ts.toList xs = some r) (hx : RL σ xs vs.toList) : OkN P B G σ hp nx w (builtin b ts ty cs vs) r := by
 unfold doBuiltin at h
 split at h
 ·rename_i t u s x h2
  obtain ⟨v, v', hvs, h3, h4⟩ := hx.two
  rw [list2 h2, list2 hvs]
  exact okV_n (append_ok hr hB hf h h3 h4)
 ·rename_i t x h2
  obtain ⟨v, hvs, h3⟩ := hx.one
  rw [list1 h2, list1 hvs]
  rcases orE_some h with h | h
  ·exact okV_n (len_ok hr h h3)
  ·exact okV_n (lenU_ok hr h h3)
 ·rename_i t x h2
  obtain ⟨v, hvs, h3⟩ := hx.one
  rw [list1 h2, list1 hvs]
  exact okV_n (cap_ok hr h h3)
 ·rename_i t u d s h2
  obtain ⟨v, v', hvs, h3, h4⟩ := hx.two
  rw [list2 h2, list2 hvs]
  exact okV_n (copy_ok hr h h3 h4)
 ·rename_i t u m k h2
  obtain ⟨v, v', hvs, h3, h4⟩ := hx.two
  rw [list2 h2, list2 hvs]
  rcases orE_some h with h | h
  ·exact okV_n (delete_ok hr h h3 h4)
  ·exact okV_n (deleteU_ok hr h h3 h4)
 ·rename_i t x h2
  obtain ⟨v, hvs, h3⟩ := hx.one
  rw [list1 h2, list1 hvs]
  exact okV_n (clear_ok hr h h3)
 ·rename_i k x l
  obtain ⟨v, us, hvs, h3, h4⟩ := hx.uncons
  split at h
  ·rename_i n hn
   refine okV_n (.rv hr h ⟨.int k n, ?_, .int _ _⟩)
   simp only [Builtin.max_, hvs, h3.inv_int]
   exact max_fold hn h4
  ·cases h
 ·rename_i k x l
  obtain ⟨v, us, hvs, h3, h4⟩ := hx.uncons
  split at h
  ·rename_i n hn
   refine okV_n (.rv hr h ⟨.int k n, ?_, .int _ _⟩)
   simp only [Builtin.min_, hvs, h3.inv_int]
   exact min_fold hn h4
  ·cases h
 ·rename_i k x l
  obtain ⟨v, us, hvs, h3, h4⟩ := hx.uncons
  split at h
  ·rename_i n hn
   refine okV_n (.rv hr h ⟨.float k n, ?_, .flt _ _⟩)
   simp only [Builtin.max_, hvs, h3.inv_flt]
   exact maxF_fold hn h4
  ·cases h
 ·rename_i k x l
  obtain ⟨v, us, hvs, h3, h4⟩ := hx.uncons
  split at h
  ·rename_i n hn
   refine okV_n (.rv hr h ⟨.float k n, ?_, .flt _ _⟩)
   simp only [Builtin.min_, hvs, h3.inv_flt]
   exact minF_fold hn h4
  ·cases h
 ·rename_i x
  obtain ⟨v, hvs, h3⟩ := hx.one
  rw [list1 hvs]
  exact okV_n (data_ok hr h h3)
 ·rename_i pt it x y h2
  obtain ⟨v, v', hvs, h3, h4⟩ := hx.two
  rw [list2 h2, list2 hvs]
  exact okV_n (ustr_ok hr h h3 h4)
 ·cases h
end
end Go.Ex
set_option linter.unusedVariables false
set_option linter.unusedSimpArgs false
namespace Go.Ex

section
variable {P : Program} {B G : Nat} {σ : Sg} {hp : Tr Blk} {nx : Nat} {w : World}

theorem nameDiff_all {q : Field × Field → Bool} : ∀ {l m : List Field}, nameDiff l m = true → (∀ f g, q (f, g) = true → f.name = g.name) → (l.zip m).all q = false
 | [], _, h, _ => by simp [nameDiff] at h
 | _ :: _, [], h, _ => by simp [nameDiff] at h
 | f :: l, g :: m, h, hq => by
  rw [List.zip_cons_cons, List.all_cons]
  simp only [nameDiff, Bool.or_eq_true] at h
  rcases h with h | h
  ·cases hc : q (f, g) with
   | false => rfl
   | true => rw [hq f g hc, beq_self_eq_true] at h; cases h
  ·rw [nameDiff_all h hq, Bool.and_false]
theorem unlike_ok {u t : TypeId} {k : Nat} (h : unlikeB P u t = true) : P.alikeButTags (k + 1) u t = false := by
 unfold unlikeB at h
 simp only [Bool.and_eq_true, Bool.not_eq_true'] at h
 obtain ⟨h1, h2⟩ := h
 have hne : (u == t) = false := by
  cases hq : (u == t) with
  | false => rfl
  | true => rw [eq_of_beq hq, beq_t rfl] at h1; cases h1
 simp only [Program.alikeButTags, hne, Bool.false_or]
 revert h2
 generalize Option.map (fun x : TypeInfo => x.desc) (P.info? u) = a
 generalize Option.map (fun x : TypeInfo => x.desc) (P.info? t) = b
 intro h2
 split at h2
 ·rename_i gs fs
  by_cases hs : gs.size = fs.size
  ·have hd : nameDiff gs.toList fs.toList = true := by
    rw [hs, beq_t rfl] at h2; simpa using h2
   have := nameDiff_all (q := fun x => x.1.name == x.2.name && x.1.embedded == x.2.embedded && x.1.pkgPath == x.2.pkgPath && P.alikeButTags k x.1.type x.2.type) hd (fun f g hq => by
    simp only [Bool.and_eq_true] at hq; exact eq_of_beq hq.1.1.1)
   rw [← Array.toList_zip, Array.all_toList] at this
   show (gs.size == fs.size && (gs.zip fs).all fun x => x.1.name == x.2.name && x.1.embedded == x.2.embedded && x.1.pkgPath == x.2.pkgPath && P.alikeButTags k x.1.type x.2.type) = false
   rw [this, Bool.and_false]
  ·simp [hs]
 ·rename_i fs hno
  cases a with
  | none => rfl
  | some d => cases d <;> first | rfl | exact (hno _ rfl).elim | exact (hno _ _ rfl rfl).elim
 ·cases h2
theorem unheld_ok {t : TypeId} (h : unheldB P t = true) : P.stoodInHeld t = false := by
 unfold unheldB at h
 have hk : ∃ k, P.depth = k + 1 := ⟨2 * (P.types.size + Made.depth) + 1, rfl⟩
 obtain ⟨k, hk⟩ := hk
 have key : (P.cutTypes.toList.filter fun c => P.alikeButTags P.depth (P.underlyingId c.2) (P.underlyingId t)) = [] := by
  rw [List.filter_eq_nil_iff]
  intro c hc
  rw [hk, unlike_ok (List.all_eq_true.1 h c hc)]
  simp
 have hn : P.stoodInAs t = [] := by
  unfold Program.stoodInAs
  rw [key]
  simp
 simp [Program.stoodInHeld, hn]
theorem plain_guard {k : Nat} : ∀ {fs : List Field}, plainF P fs = true → (fs.any fun f => f.name != "_" && P.eqGuardType (k + 1) f.type) = false
 | [], _ => rfl
 | f :: fs, h => by
  unfold plainF at h
  have tail : ∀ b, (bif b then false else plainF P fs) = true → plainF P fs = true := fun b hb => by cases b <;> first | exact hb | cases hb
  rw [List.any_cons]
  split at h <;> first
   | (rename_i hu; rw [plain_guard (k := k) (tail _ h)]; simp [Program.eqGuardType, hu])
   | cases h
theorem eqFieldsA_ok {n : Nat} {l m : List AV} {vs us : List Value} (hl : RL σ l vs) (h1 : ∀ u, u ∈ vs → oneC u = true) (hm : RL σ m us) (h2 : ∀ u, u ∈ us → oneC u = true) :
  ∀ {fs : List Field} {r : Bool}, plainF P fs = true → eqFieldsA P l m fs = some r → (Op.eqFields (n + 1) vs.toArray us.toArray fs).run P w = .ok r w
 | [], r, _, h => by simp only [eqFieldsA, Option.some.injEq] at h; subst h; simp [Op.eqFields]
 | f :: fs, r, hp, h => by
  have hq : f.name ≠ "_" ∧ plainF P fs = true := by
   unfold plainF at hp
   have tail : (bif f.name == "_" then false else plainF P fs) = true → f.name ≠ "_" ∧ plainF P fs = true := fun hb => by
    cases hf : f.name == "_" with
    | true => rw [hf] at hb; cases hb
    | false => rw [hf] at hb; exact ⟨fun e => by rw [e] at hf; simp at hf, hb⟩
   split at hp <;> first
    | exact tail hp
    | cases hp
  unfold eqFieldsA at h
  split at h
  ·rename_i d x y hd hx hy
   obtain ⟨a, ha, hxa⟩ := run_part (P := P) (w := w) hl h1 hx
   obtain ⟨b, hb, hyb⟩ := run_part (P := P) (w := w) hm h2 hy
   split at h
   ·rename_i he
    have := eqP_ok (P := P) (w := w) (n := n) hd he hxa hyb
    simp only [Op.eqFields, hq.1, ne_eq, not_false_eq_true, if_true, Sem.run_bind, ha, hb, this, Result.andThen_ok, Bool.not_true, Bool.false_eq_true, if_false]
    exact eqFieldsA_ok hl h1 hm h2 hq.2 h
   ·rename_i he
    have := eqP_ok (P := P) (w := w) (n := n) hd he hxa hyb
    simp only [Option.some.injEq] at h; subst h
    simp only [Op.eqFields, hq.1, ne_eq, not_false_eq_true, if_true, Sem.run_bind, ha, hb, this, Result.andThen_ok, Bool.not_false, Sem.run_pure]
   ·cases h
  ·cases h
theorem eqAgg_ok {t : TypeId} {l m : List AV} {vs us : List Value} {r : Bool} (hl : RL σ l vs) (h1 : ∀ u, u ∈ vs → oneC u = true) (hm : RL σ m us) (h2 : ∀ u, u ∈ us → oneC u = true) (h : eqAgg P t l m = some r) :
  P.eqGuardType P.depth t = false ∧ (Op.equalIn 10000 t (.agg vs.toArray) (.agg us.toArray)).run P w = .ok r w := by
 unfold eqAgg at h
 split at h
 ·rename_i fs hu
  rcases cond_eq_some h with ⟨hc, h'⟩ | ⟨_, h'⟩
  ·rw [Bool.and_eq_true] at hc
   obtain ⟨hp, hh⟩ := hc
   have hf : P.fieldsOf t = fs := by simp [Program.fieldsOf, hu]
   refine ⟨?_, ?_⟩
   ·have hk : ∃ k, P.depth = k + 1 + 1 := ⟨2 * (P.types.size + Made.depth), rfl⟩
    obtain ⟨k, hk⟩ := hk
    rw [hk]
    have hg := plain_guard (k := k) hp
    rw [Program.eqGuardType]
    simp only [hu]
    rw [← Array.any_toList]
    exact hg
   ·have e := run_equalIn_agg (P := P) w 9999 t vs.toArray us.toArray (by rw [hf]; exact hu) (unheld_ok hh)
    rw [hf, eqFieldsA_ok (n := 9998) hl h1 hm h2 hp h'] at e
    exact e
  ·cases h'
 ·cases h
theorem binS_ok {op : BinOp} {t : TypeId} {o1 o2 : Operand} {x y z : AV} {vx vy : Value} (hg : guardA op o1 o2 x y = true) (h : binS P op t x y = some z) (hx : Rv σ x vx) (hy : Rv σ y vy) :
  Runs P σ w (do eqGuard op t o1 o2 vx vy; binOp op t vx vy) z := by
 unfold binS at h
 split at h
 ·rename_i l m
  obtain ⟨vs, hl, h1, rfl⟩ := hx.inv_agg
  obtain ⟨us, hm, h2, rfl⟩ := hy.inv_agg
  split at h
  ·split at h
   ·rename_i b hb
    obtain ⟨g, e⟩ := eqAgg_ok (w := w) hl h1 hm h2 hb
    simp only [Option.some.injEq] at h; subst h
    refine ⟨.bool b, ?_, .bool _⟩
    simp only [Sem.run_bind, run_eqGuard_agg (P := P) w _ t o1 o2 vs.toArray us.toArray g, Result.andThen_ok, run_eql_struct (P := P) w, e]
   ·cases h
  ·split at h
   ·rename_i b hb
    obtain ⟨g, e⟩ := eqAgg_ok (w := w) hl h1 hm h2 hb
    simp only [Option.some.injEq] at h; subst h
    refine ⟨.bool (!b), ?_, .bool _⟩
    simp only [Sem.run_bind, run_eqGuard_agg (P := P) w _ t o1 o2 vs.toArray us.toArray g, Result.andThen_ok, run_neq_struct (P := P) w, e]
   ·cases h
  ·cases h
 ·obtain ⟨k1, k2, k3⟩ := binA_known h
  obtain ⟨v, hv, hzv⟩ := bin_ok (P := P) (w := w) h hx hy
  refine ⟨v, ?_, hzv⟩
  simp only [Sem.run_bind, eqGuard_ok (P := P) (w := w) (t := t) hg hx hy k3 k1 k2, Result.andThen_ok]
  exact hv
theorem aop_ok (hr : Rel B G σ hp w) (hB : B ≤ w.heap.size) {sz : Nat} {tm : Tr AV} {a : Act} (ht : RT σ sz tm a.tmps) {o : Oper} {r : R} (h : aop P G tm hp nx o = some r) (hf : Fresh σ nx r.nx) :
  OkN P B G σ hp nx w (execOp a.eval o) r := by
 have ev := ev_ok hr ht
 obtain ⟨dst, op, type, pos, after, guard⟩ := o
 cases op <;> simp only [aop, aopM] at h <;> simp only [execOp]
 case move x => exact okN_val hr h (ev _)
 case assign x => exact okN_val hr h (ev _)
 case load t x => exact okV_n (.rvO hr h fun y hy => load_ok hr hy (ev _))
 case store t x y => exact okU_n (store_ok hr h (ev _) (ev _))
 case binOp op t x y _ =>
  rcases cond_eq_some h with ⟨hg, h'⟩ | ⟨_, h'⟩ <;> clear h
  ·exact okV_n (.rvO hr h' fun z hz => binS_ok hg hz (ev x) (ev y))
  ·cases h'
 case fieldAddr s x f => exact okV_n (fieldAddr_ok hr h (ev _))
 case indexAddr t x i => exact okV_n (indexAddr_ok hr h (ev _) (ev _))
 case nilCheck x =>
  unfold doNilCheck at h
  have hx := ev x
  split at h
  ·rename_i hq; rw [hq] at hx
   obtain ⟨b, z, hs, e⟩ := hx.inv_ptr
   rw [e]
   exact okN_val hr h (.ptr _ _ _ _ hs)
  ·rename_i hq; rw [hq] at hx
   obtain ⟨va, vb, h1, h2, e⟩ := hx.inv_fn
   rw [e]
   exact okN_val hr h (.fn _ _ _ _ _ h1.1 h2.1 h1.2 h2.2)
  ·rename_i hq; rw [hq] at hx
   obtain ⟨u, hu, e⟩ := hx.inv_iface
   rw [e]
   exact okN_val hr h (.iface _ _ _ hu)
  ·cases h
 case pick c x y =>
  unfold doPick at h
  have hc := ev c
  split at h
  ·rename_i hq; rw [hq] at hc; rw [hc.inv_bool]; exact okN_val hr h (ev _)
  ·rename_i hq; rw [hq] at hc; rw [hc.inv_bool]; exact okN_val hr h (ev _)
  ·cases h
 case unOp op t x => exact okV_n (.rvO hr h fun y hy => un_ok hy (ev _))
 case alloc t => exact okV_n (alloc_ok hr hB hf h)
 case box t x => exact okV_n (box_ok hr hB hf h (ev _))
 case build t ps =>
  refine okV_n (build_ok hr h ?_)
  rw [Array.toList_map]; exact RPs_map ev _
 case buildSlice t n ps =>
  refine okV_n (buildSlice_ok hr hB hf h ?_)
  rw [Array.toList_map]; exact RPs_map ev _
 case convert s d x => exact okV_n (convert_ok hr hB hf h (ev _))
 case makeInterface t x => exact okV_n (makeIface_ok hr h (ev _))
 case makeFunc f x y =>
  unfold doMakeFunc at h
  split at h
  ·rename_i g
   have h1 := evs_ok hr ht x
   have h2 := evs_ok hr ht y
   refine okV_n (s := Instr.makeFunc (.func g) (x.map a.eval) (y.map a.eval)) (.rv hr h ⟨.func (.func g) (x.map a.eval) (y.map a.eval), rfl, ?_⟩)
   have := Rv.fn (σ := σ) g _ _ (x.map a.eval).toList (y.map a.eval).toList h1.1 h2.1 h1.2 h2.2
   rwa [Array.toArray_toList, Array.toArray_toList] at this
  ·cases h
 case makeMap t x => exact okV_n (makeMap_ok hr hB hf h (RO_map ev _))
 case makeSlice t l c => exact okV_n (makeSlice_ok hr hB hf h (ev _) (ev _))
 case slice t x lo hi mx => exact okV_n (slice_ok hr h (ev _) (RO_map ev _) (RO_map ev _) (RO_map ev _))
 case field s x f => exact okV_n (field_ok hr h (ev _))
 case index t x i => exact okV_n (index_ok hr h (ev _) (ev _))
 case lookup t x i ok =>
  rcases orE_some h with h | h
  ·exact okV_n (lookup_ok hr h (ev _) (ev _))
  ·exact okV_n (lookupU_ok hr h (ev _) (ev _))
 case mapUpdate t m k v =>
  rcases orE_some h with h | h
  ·exact okU_n (mapSet_ok hr h (ev _) (ev _) (ev _))
  ·exact okU_n (mapSetU_ok hr h (ev _) (ev _) (ev _))
 case insert t m k v =>
  rcases orE_some h with h | h
  ·exact okU_n (mapSet_ok hr h (ev _) (ev _) (ev _))
  ·exact okU_n (mapSetU_ok hr h (ev _) (ev _) (ev _))
 case mapEntry t m k => exact okV_n (mapEntry_ok hr h (ev _) (ev _))
 case entryStore t m s v => exact okU_n (entryStore_ok hr h (ev _) (ev _) (ev _))
 case range t x => exact okV_n (range_ok hr hB hf h (ev _))
 case next it isS => exact okV_n (next_ok hr h (ev _))
 case entry it => exact okV_n (entry_ok hr h (ev _))
 case typeAssert x t as ok => exact okV_n (assert_ok hr h (ev _))
 case extract x i =>
  unfold doExtract at h
  have hx := ev x
  split at h
  ·rename_i l hq
   rw [hq] at hx
   obtain ⟨vs, hl, e⟩ := hx.inv_tup
   refine okV_n (.rvO hr h fun y hy => ?_)
   obtain ⟨v, hv, hyv⟩ := hl.get hy
   rw [e]
   exact ⟨v, by simp [Instr.extract, hv], hyv⟩
  ·cases h
 case call c =>
  split at h
  ·rename_i b hb
   simp only [resolve, hb, pure_bind, invoke]
   exact builtin_ok hr hB hf h (evs_ok hr ht c.args)
  ·cases h
 all_goals cases h
theorem pickO_ok (hr : Rel B G σ hp w) {sz : Nat} {tm : Tr AV} {a : Act} (ht : RT σ sz tm a.tmps) {o : Oper} {it : Operand} {isS : Bool} (hop : o.op = .next it isS) {l : List R} (h : picks hp nx (ev G tm it) isS = some l) :
  l = [] ∨ ∃ r ∈ l, r.nx = nx ∧ OkN P B G σ hp nx w (execOp a.eval o) r := by
 have ev := ev_ok hr ht
 obtain ⟨dst, op, type, pos, after, guard⟩ := o
 simp only at hop
 subst hop
 rcases picks_ok (P := P) (t := type) hr h (ev _) with ⟨h0, _⟩ | ⟨r, h1, h2, h3⟩
 ·exact .inl h0
 ·exact .inr ⟨r, h1, h2, by simp only [execOp]; exact okV_n h3⟩
end
end Go.Ex
