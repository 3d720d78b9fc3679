/-
  The abstract machine: numbers, conversions, interface values, ranges, the smaller builtins.
-/
import Derived.Test.YtkidamemnogojaaGreatDoorExOps6
import Derived.Laws.BytesString
import Derived.Lib.Builder
import Derived.Lib.UnsafeStr
import Derived.Lib.MakeNoZero
import Derived.Laws.RangeString
import Derived.Maps.RangeRun
set_option linter.unusedVariables false
set_option linter.unusedSimpArgs false
namespace Go.Ex

section
variable {P : Program} {B G : Nat} {σ : Sg} {hp : Tr Blk} {nx : Nat} {w : World}

/-! ### Operators -/
theorem eqP_known {d : TypeDesc} {x y : AV} {b : Bool} (h : eqP P d x y = some b) : Kn x ∧ Kn y ∧ ¬ ∃ l m, x = .agg l ∧ y = .agg m := by
  refine ⟨?_, ?_, ?_⟩
  · constructor <;> (rintro rfl; simp [eqP] at h)
  · constructor <;> (rintro rfl; simp [eqP] at h)
  · rintro ⟨l, m, rfl, rfl⟩; simp [eqP] at h
theorem eqV_known {t : TypeId} {x y : AV} {b : Bool} (h : eqV P t x y = some b) : Kn x ∧ Kn y ∧ ¬ ∃ l m, x = .agg l ∧ y = .agg m := by
  unfold eqV at h
  split at h
  · refine ⟨by simp [Kn], by simp [Kn], ?_⟩; rintro ⟨l, m, e, _⟩; cases e
  · exact eqP_known h
  · cases h

theorem binA_known {op : BinOp} {t : TypeId} {x y z : AV} (h : binA P op t x y = some z) : Kn x ∧ Kn y ∧ ¬ ∃ l m, x = .agg l ∧ y = .agg m := by
  unfold binA at h
  split at h
  · exact ⟨by simp [Kn], by simp [Kn], by rintro ⟨l, m, e, _⟩; cases e⟩
  · exact ⟨by simp [Kn], by simp [Kn], by rintro ⟨l, m, e, _⟩; cases e⟩
  · exact ⟨by simp [Kn], by simp [Kn], by rintro ⟨l, m, e, _⟩; cases e⟩
  · split at h
    · split at h
      · rename_i he; exact eqV_known he
      · cases h
    · split at h
      · rename_i he; exact eqV_known he
      · cases h
    · cases h

theorem binOp_eql {t : TypeId} {x y : Value} (h1 : ∀ k a k' b, ¬ (x = .int k a ∧ y = .int k' b)) (h2 : ∀ a b, ¬ (x = .string a ∧ y = .string b)) (h3 : ∀ k a, x ≠ .float k a) (h4 : ∀ k a b, x ≠ .complex k a b) :
    binOp .eql t x y = (do pure (.bool (← Op.equal t x y))) := by
  cases x <;> cases y <;> first
    | rfl
    | exact absurd ⟨rfl, rfl⟩ (h1 _ _ _ _)
    | exact absurd ⟨rfl, rfl⟩ (h2 _ _)
    | exact absurd rfl (h3 _ _)
    | exact absurd rfl (h4 _ _ _)
theorem binOp_neq {t : TypeId} {x y : Value} (h1 : ∀ k a k' b, ¬ (x = .int k a ∧ y = .int k' b)) (h2 : ∀ a b, ¬ (x = .string a ∧ y = .string b)) (h3 : ∀ k a, x ≠ .float k a) (h4 : ∀ k a b, x ≠ .complex k a b) :
    binOp .neq t x y = (do pure (.bool (!(← Op.equal t x y)))) := by
  cases x <;> cases y <;> first
    | rfl
    | exact absurd ⟨rfl, rfl⟩ (h1 _ _ _ _)
    | exact absurd ⟨rfl, rfl⟩ (h2 _ _)
    | exact absurd rfl (h3 _ _)
    | exact absurd rfl (h4 _ _ _)

theorem eqP_flt {d : TypeDesc} {x y : AV} {b : Bool} (h : eqP P d x y = some b) : (∀ k n, x ≠ .flt k n) ∧ (∀ k n, y ≠ .flt k n) := by
  refine ⟨fun k n e => ?_, fun k n e => ?_⟩
  · subst e; simp [eqP] at h
  · subst e; simp [eqP] at h
theorem eqV_flt {t : TypeId} {x y : AV} {b : Bool} (h : eqV P t x y = some b) : (∀ k n, x ≠ .flt k n) ∧ (∀ k n, y ≠ .flt k n) := by
  unfold eqV at h
  split at h
  · exact ⟨fun _ _ e => (by cases e), fun _ _ e => (by cases e)⟩
  · exact eqP_flt h
  · cases h

theorem rv_int {x : AV} {k : IntKind} {n : Int} (hx : Rv σ x (.int k n)) (hj : Kn x) : x = .int k n := by
  cases hx <;> first | rfl | (exact absurd rfl hj.1) | (exact absurd rfl hj.2)
theorem rv_str {x : AV} {s : ByteArray} (hx : Rv σ x (.string s)) (hj : Kn x) : x = .str (ofBA s) := by
  cases hx <;> first | rfl | (exact absurd rfl hj.1) | (exact absurd rfl hj.2)
theorem rv_nflt {x : AV} {v : Value} (hx : Rv σ x v) (hj : Kn x) (hf : ∀ k n, x ≠ .flt k n) : (∀ k a, v ≠ .float k a) ∧ (∀ k a b, v ≠ .complex k a b) := by
  refine ⟨fun k a e => ?_, fun k a b e => ?_⟩
  · subst e; cases hx <;> first | (exact absurd rfl hj.1) | (exact absurd rfl hj.2) | exact absurd rfl (hf _ _)
  · subst e; cases hx <;> first | (exact absurd rfl hj.1) | (exact absurd rfl hj.2)

theorem eqF_to {a b : FloatKind} (h : eqF a b = true) : a = b := by cases a <;> cases b <;> first | rfl | cases h
theorem fltR_ok {k : FloatKind} {o : Option Nat} {z : AV} {op : BinOp} {x y : Nat} (h : fltR k o = some z) :
    Runs P σ w (do match o with
      | some r => pure (.float k r)
      | none => pure (.float k (← choose (.nanBits k x y)))) z := by
  cases o with
  | none => cases h
  | some r => simp only [fltR, Option.some.injEq] at h; subst h; exact ⟨_, rfl, .flt _ _⟩
theorem flt_ok {op : BinOp} {t : TypeId} {k : FloatKind} {x y : Nat} {z : AV} (h : fltA op k x y = some z) : Runs P σ w (binOp op t (.float k x) (.float k y)) z := by
  unfold fltA at h
  cases op <;> simp only at h <;> first
    | (cases h; done)
    | (simp only [Option.some.injEq] at h; subst h
       refine ⟨_, ?_, .bool _⟩
       simp only [binOp, ne_eq, not_true, if_false, Op.floatCmp]
       rfl)
    | (simp only [binOp, ne_eq, not_true, if_false, Op.floatArith, pure_bind]
       exact fltR_ok (op := .add) (x := x) (y := y) h)
theorem bin_ok {op : BinOp} {t : TypeId} {x y z : AV} {vx vy : Value} (h : binA P op t x y = some z) (hx : Rv σ x vx) (hy : Rv σ y vy) : Runs P σ w (binOp op t vx vy) z := by
  have hk := binA_known h
  unfold binA at h
  split at h
  · rename_i k a k' b
    rw [hx.inv_int, hy.inv_int]
    split at h
    · exact shift_ok (P := P) (yk := k') (op := .shl) h
    · exact shift_ok (P := P) (yk := k') (op := .shr) h
    · rename_i h1 h2
      rcases cond_eq_some h with ⟨hb, h⟩ | ⟨_, h⟩
      · rw [← eqK_iff hb]; exact int_ok h h1 h2
      · cases h
  · rename_i a b
    obtain ⟨s, rfl, rfl⟩ := hx.inv_str; obtain ⟨u, rfl, rfl⟩ := hy.inv_str
    split at h
    · cases h
    · cases h
    · rename_i h1 h2; exact str_ok h h1 h2
  · rename_i k a k' b
    rw [hx.inv_flt, hy.inv_flt]
    split at h
    · cases h
    · cases h
    · rename_i h1 h2
      rcases cond_eq_some h with ⟨hb, h⟩ | ⟨_, h⟩
      · rw [← eqF_to hb]; exact flt_ok h
      · cases h
  · rename_i hni hns _
    have g1 : ∀ k a k' b, ¬ (vx = .int k a ∧ vy = .int k' b) := by
      rintro k a k' b ⟨rfl, rfl⟩; exact hni _ _ _ _ (rv_int hx hk.1) (rv_int hy hk.2.1)
    have g2 : ∀ a b, ¬ (vx = .string a ∧ vy = .string b) := by
      rintro a b ⟨rfl, rfl⟩; exact hns _ _ (rv_str hx hk.1) (rv_str hy hk.2.1)
    split at h
    · split at h
      · rename_i b he
        simp only [Option.some.injEq] at h; subst h
        obtain ⟨g3, g4⟩ := rv_nflt hx hk.1 (eqV_flt he).1
        refine ⟨.bool b, ?_, .bool b⟩
        rw [binOp_eql g1 g2 g3 g4]
        have := eqV_ok (P := P) (w := w) (n := Op.maxDepth - 2) he hx hy
        have : (Op.equal t vx vy).run P w = .ok b w := this
        simp [this]
      · cases h
    · split at h
      · rename_i b he
        simp only [Option.some.injEq] at h; subst h
        obtain ⟨g3, g4⟩ := rv_nflt hx hk.1 (eqV_flt he).1
        refine ⟨.bool (!b), ?_, .bool (!b)⟩
        rw [binOp_neq g1 g2 g3 g4]
        have := eqV_ok (P := P) (w := w) (n := Op.maxDepth - 2) he hx hy
        have : (Op.equal t vx vy).run P w = .ok b w := this
        simp [this]
      · cases h
    · cases h

theorem un_ok {op : UnOp} {x z : AV} {vx : Value} (h : unA op x = some z) (hx : Rv σ x vx) : Runs P σ w (Op.unary op vx) z := by
  unfold unA at h
  split at h
  · rename_i b
    rw [hx.inv_bool]
    simp only [Option.some.injEq] at h; subst h
    exact ⟨_, rfl, .bool _⟩
  · rename_i k n
    rw [hx.inv_int]
    simp only [Option.some.injEq] at h; subst h
    rw [wrapA_eq]
    exact ⟨_, rfl, .int _ _⟩
  · cases h

/-! ### Conversions -/
theorem bytes_spec : ∀ {cs : List AV} {b : List Nat} {vs : List Value}, bytesOfCells cs = some b → RL σ cs vs → vs = b.map (fun n => Value.int .u8 (.ofNat n)) ∧ ∀ n ∈ b, n < 256 := by
  intro cs
  induction cs with
  | nil => intro b vs h hr; simp [bytesOfCells] at h; subst h; rw [hr.of_nil]; simp
  | cons x cs ih =>
    intro b vs h hr
    obtain ⟨v, us, rfl, hx, hr'⟩ := hr.uncons
    unfold bytesOfCells at h
    split at h
    · rename_i heq; cases heq
    · rename_i n l heq
      cases heq
      split at h
      · rename_i r hr2
        rcases cond_eq_some h with ⟨hb, h⟩ | ⟨_, h⟩
        · simp only [Option.some.injEq] at h; subst h
          obtain ⟨e, hlt⟩ := ih hr2 hr'
          rw [hx.inv_int, e]
          exact ⟨rfl, by intro m hm; rcases List.mem_cons.1 hm with rfl | hm; exact blt_iff.1 hb; exact hlt m hm⟩
        · cases h
      · cases h
    · cases h

theorem shape_of {b : Nat} {c : Array Value} {t : TypeId} {fr : Nat × Nat} {w : World} (h : w.heap[b]? = some (.cells c t fr)) : w.shape? b = some (t, c.size) := by simp [World.shape?, h]
theorem size_info {t : TypeId} {n : Nat} (h : sizeB P t = some n) : ∃ j, P.info? t = some j ∧ j.size = n := by
  unfold sizeB at h
  split at h
  · rename_i i hi; exact ⟨i, hi, by simpa using h⟩
  · cases h
theorem foldl_bytes : ∀ (b : List Nat) (s : ByteArray), (∀ n ∈ b, n < 256) → ofBA ((b.map Int.ofNat).foldl (fun r n => r.push (UInt8.ofNat n.toNat)) s) = ofBA s ++ b := by
  intro b
  induction b with
  | nil => intro s _; simp
  | cons n b ih =>
    intro s h
    simp only [List.map_cons, List.foldl_cons]
    rw [ih _ (fun m hm => h m (by simp [hm]))]
    have := h n (by simp)
    have e : (UInt8.ofNat n).toNat = n := by simp; omega
    simp [ofBA, e]

theorem push_modify (a : Array Obj) (o : Obj) (f : Obj → Obj) : (a.push o).modify a.size f = a.push (f o) := by
  apply Array.ext_getElem?
  intro i
  rw [Array.getElem?_modify, Array.getElem?_push, Array.getElem?_push]
  by_cases h : i = a.size
  · simp [h]
  · simp [h, Ne.symm h]

theorem run_stringToBytes (e : TypeId) (s : ByteArray) : ∃ c w', s.size ≤ c ∧ (Conv.stringToBytes e s).run P w = .ok (.slice (some ⟨w.heap.size, 0, none⟩) s.size c) w' ∧
    w'.heap = w.heap.push (.cells (s.data.map (fun b => Value.int .u8 b.toNat) ++ Array.replicate (c - s.size) (.int .u8 0)) e (c, c + 1)) ∧ w'.os = w.os ∧ w'.tape = w.tape ∧ w'.output = w.output := by
  let c := (Question.appendCap s.size 0 e).cut (w.tape w.drawn (.appendCap s.size 0 e))
  have hc : s.size ≤ c := by simp [c, Question.cut]
  let cs := s.data.map (fun b => Value.int .u8 b.toNat) ++ Array.replicate (c - s.size) (.int .u8 0)
  have hsz : cs.size = c := by
    have : s.data.size = s.size := rfl
    simp only [cs, Array.size_append, Array.size_map, Array.size_replicate, this]; omega
  let w1 : World := { w with drawn := w.drawn + 1, heap := w.heap.push (.cells cs e) }
  have hsh : w1.shape? w.heap.size = some (e, c) := by simp [World.shape?, w1, hsz]
  refine ⟨c, w1.freeze { block := w.heap.size, off := c } 1, hc, ?_, ?_, rfl, rfl, rfl⟩
  · simp only [Conv.stringToBytes, Sem.run_bind, run_choose, Question.forced, Bool.false_eq_true, if_false, Result.andThen_ok, newRow, markStringish, run_newObj, Sem.run_pure, run_shape]
    show ((match w1.shape? w.heap.size with | some (_, n) => freeze { block := w.heap.size, off := n } 1 | x => pure () : Sem Unit).run P w1).andThen _ = _
    rw [hsh]
    rfl
  · simp only [World.freeze, w1]
    rw [if_neg (by decide)]
    have key := push_modify w.heap (Obj.cells cs e) (fun x => match x with
      | .cells c_1 elem (lo, hi) => .cells c_1 elem (if lo == hi then (c, c + 1) else (min lo c, max hi (c + 1)))
      | o => o)
    exact key

theorem convert_ok (hr : Rel B G σ hp w) (hB : B ≤ w.heap.size) {src dst : TypeId} {x : AV} {vx : Value} {r : R} (hf : Fresh σ nx r.nx) (h : doConvert P hp nx src dst x = some r) (hx : Rv σ x vx) : OkV P B G σ hp nx w (convert src dst vx) r := by
  unfold doConvert at h
  split at h
  · rename_i s k hs hd
    split at h
    · rename_i kk n
      refine .rv hr h ⟨.int k (k.wrap n), ?_, by rw [wrapA_eq]; exact .int _ _⟩
      rw [hx.inv_int]
      simp [convert, run_und hs, run_und hd, Conv.intToInt]
    · cases h
  · rename_i s k hs hd
    split at h
    · rename_i kk n
      refine .rv hr h ⟨.float k (k.nearest n), ?_, .flt _ _⟩
      rw [hx.inv_int]
      simp [convert, run_und hs, run_und hd, Conv.intToFloat]
    · rename_i sk b
      rcases cond_eq_some h with ⟨hq, h'⟩ | ⟨_, h'⟩
      · have hq := eqF_to hq
        subst hq
        refine .rv hr h' ⟨.float sk b, ?_, .flt _ _⟩
        rw [hx.inv_flt]
        simp [convert, run_und hs, run_und hd, Conv.floatToFloat]
      · cases h'
    · cases h
  · rename_i s hs hd
    split at h
    · rename_i b
      obtain ⟨u, rfl, rfl⟩ := hx.inv_str
      refine .rv hr h ⟨.string u, ?_, .str u⟩
      cases s <;> simp [convert, run_und hs, run_und hd]
    · rename_i kk n
      refine .rv hr h ⟨.string (Utf8.encode (.ofNat n)), ?_, .str _⟩
      rw [hx.inv_int]
      cases s <;> simp [convert, run_und hs, run_und hd, Conv.intToString]
    · rw [hx.inv_nils]
      split at h
      · rename_i e
        split at h
        · rename_i he
          refine .rv hr h ⟨.string .empty, ?_, .str .empty⟩
          rw [run_convert_bytes_string w src dst e _ _ _ hs he hd]
          rfl
        · cases h
      · cases h
    · rename_i id off len cap es
      split at h
      · rename_i e
        split at h
        · rename_i wr o l he hg
          split at h
          · rename_i cs hcs
            split at h
            · rename_i b hb
              obtain ⟨bk, z, c, hσ, rfl⟩ := hx.inv_sl
              obtain ⟨k, z', cc, t, fr, hσ', hk, hz, ho, hl, hfz, hc, hBk⟩ := hr.cells hg
              rw [hσ] at hσ'; simp at hσ'; obtain ⟨rfl, rfl⟩ := hσ'
              obtain ⟨g1, g2, g3⟩ := hc.sub hcs hl
              obtain ⟨e1, e2⟩ := bytes_spec hb g1
              have hload := run_loadCells (P := P) (w := w) hk g3
              rw [e1] at hload
              refine .rv hr h ⟨.string ((b.map Int.ofNat).foldl (fun r n => r.push (UInt8.ofNat n.toNat)) ByteArray.empty), ?_, ?_⟩
              · rw [run_convert_bytes_string w src dst e _ _ _ hs he hd]
                exact run_bytesToString w _ len c (b.map Int.ofNat) (by rw [hload, List.map_map]; rfl)
              · have e3 : b = ofBA ((b.map Int.ofNat).foldl (fun r n => r.push (UInt8.ofNat n.toNat)) ByteArray.empty) := by rw [foldl_bytes b _ e2]; simp [ofBA]
                conv => arg 2; rw [e3]
                exact .str _
            · cases h
          · cases h
        · cases h
      · cases h
    · cases h
  · rename_i s e hs hd
    split at h
    · rename_i b he
      obtain ⟨u, rfl, rfl⟩ := hx.inv_str
      simp only [rnew, Option.some.injEq] at h; subst h
      obtain ⟨c, w', hc, hrun, hh, h1, h2, h3⟩ := run_stringToBytes (P := P) (w := w) e u
      have hn := hf nx (Nat.le_refl _) (Nat.lt_succ_self _)
      have hds : u.data.size = u.size := rfl
      have hsz : (u.data.map (fun (b : UInt8) => Value.int .u8 b.toNat) ++ Array.replicate (c - u.size) (Value.int .u8 0)).size = c := by
        simp only [Array.size_append, Array.size_map, Array.size_replicate, hds]; omega
      refine OkV.newCells hr hB hn (s := convert src dst (.string u)) (cv := .slice (some ⟨w.heap.size, 0, none⟩) u.size c) (fun a h => by cases h; rfl) ?_ hh h1 h2 h3 ⟨?_, ?_⟩ (fun h => by cases h) ?_ ?_ ?_
      · rw [← hrun]
        cases s <;> simp [convert, run_und hs, run_und hd, run_und he]
      · intro i x hx'
        simp only [ofBA, List.map_map, List.getElem?_map, Option.map_eq_some_iff] at hx'
        obtain ⟨b, hb, rfl⟩ := hx'
        refine ⟨.int .u8 b.toNat, ?_, .int _ _⟩
        have hb' : u.data[i]? = some b := by rw [← Array.getElem?_toList]; exact hb
        have hlt := (Array.getElem?_eq_some_iff.1 hb').1
        rw [Array.getElem?_append_left (by simpa using hlt)]
        simp [hb']
      · intro i v hv
        have hm := Array.mem_of_getElem? hv
        simp only [Array.mem_append, Array.mem_map, Array.mem_replicate] at hm
        rcases hm with ⟨b, _, rfl⟩ | ⟨_, rfl⟩ <;> rfl
      · rw [hsz, List.length_map, ofBA_length]; exact hc
      · rw [hsz]; intro i hi; simp only; rcases hi with hi | hi; omega; cases hi
      · rw [hsz, ofBA_length]
        exact .slo _ _ _ c _ _ _ (Sg.put_same _ _ _) (by omega)
    · cases h
  · rename_i t hs hd
    split at h
    · rename_i id off n hz
      split at h
      · rename_i wr o tt l hg
        rcases cond_eq_some h with ⟨hlt, h'⟩ | ⟨_, h'⟩ <;> clear h
        · have hlt := blt_iff.1 hlt
          obtain ⟨b, z, hσ, rfl⟩ := hx.inv_ptr
          obtain ⟨k, z', c, tc, fr, hs', hk, hcz, ho, hl, _, _, _⟩ := hr.cells hg
          rw [hσ] at hs'; simp at hs'; obtain ⟨rfl, rfl⟩ := hs'
          obtain ⟨j, hj, hj2⟩ := size_info hz
          refine .rv hr h' ⟨.pointer (some ⟨b, off, none⟩), ?_, .ptr _ _ _ _ hσ⟩
          exact Lib.run_to_unsafe w ⟨b, off, none⟩ hs hd hj (by omega) (shape_of hk) (by show off < c.size; omega)
        · cases h'
      · cases h
    · cases h
  · rename_i u hs hd
    split at h
    · rename_i id off n hz
      split at h
      · rename_i wr tt l hg
        rcases cond_eq_some h with ⟨hlies, h'⟩ | ⟨_, h'⟩ <;> clear h
        · obtain ⟨b, z, hσ, rfl⟩ := hx.inv_ptr
          obtain ⟨k, z', c, tc, fr, hs', hk, hcz, ho, hl, _, _, _⟩ := hr.cells hg
          rw [hσ] at hs'; simp at hs'; obtain ⟨rfl, rfl⟩ := hs'
          have htc := hr.cellsT hg hσ hk _ rfl
          subst htc
          obtain ⟨j, hj, hj2⟩ := size_info hz
          refine .rv hr h' ⟨.pointer (some ⟨b, off, none⟩), ?_, .ptr _ _ _ _ hσ⟩
          exact Lib.run_from_unsafe w ⟨b, off, none⟩ hs hd hj (shape_of hk) (by rw [← ho rfl]; exact hlies)
        · cases h'
      · cases h
    · cases h
  · cases h

/-! ### Interface values -/
theorem makeIface_ok (hr : Rel B G σ hp w) {t : TypeId} {x : AV} {vx : Value} {r : R} (h : doMakeIface P nx t x = some r) (hx : Rv σ x vx) : OkV P B G σ hp nx w (Instr.makeInterface t vx) r := by
  unfold doMakeIface at h
  split at h
  · cases h
  · cases h
  · rename_i d hni hu
    refine .rv hr h ⟨.iface t vx, ?_, .iface t x vx hx⟩
    simp only [Instr.makeInterface, Sem.run_bind, run_und hu, Result.andThen_ok]
    cases d <;> first | rfl | exact absurd rfl (hni _)

theorem tup2 {x y : AV} {a b : Value} (hx : Rv σ x a) (hy : Rv σ y b) : Rv σ (.tup [x, y]) (.tuple #[a, b]) := .tup _ [a, b] rfl (RL.cons hx (.cons hy .nil)).2

theorem assert_ok (hr : Rel B G σ hp w) {t asserted : TypeId} {ok : Bool} {x : AV} {vx : Value} {r : R} (h : doAssert P nx x asserted ok = some r) (hx : Rv σ x vx) :
    OkV P B G σ hp nx w (Instr.typeAssert vx t asserted ok) r := by
  unfold doAssert at h
  split at h
  · cases h
  · rename_i d hni hu
    rcases cond_eq_some h with ⟨hok, h'⟩ | ⟨_, h'⟩ <;> clear h
    · split at h'
      · rename_i z hz
        obtain ⟨i, zv, hi, hz1, hz2⟩ := zeroA_spec hz
        refine .rv hr h' ⟨.tuple #[zv, .bool false], ?_, tup2 (ofVal_ok hz2) (.bool _)⟩
        subst hok
        rw [hx.inv_nili]
        simp only [Instr.typeAssert, Sem.run_bind, run_und hu, Result.andThen_ok]
        cases d <;> first | exact absurd rfl (hni _) | simp [run_zero hi hz1]
      · cases h'
    · cases h'
  · rename_i d hni _ _ tt v hu
    obtain ⟨u, hu', rfl⟩ := hx.inv_iface
    rcases cond_eq_some h with ⟨hq, h'⟩ | ⟨hq, h'⟩ <;> clear h
    · have hq := beq_iff.1 hq; subst hq
      cases ok with
      | true =>
        refine .rv hr h' ⟨.tuple #[u, .bool true], ?_, tup2 hu' (.bool _)⟩
        simp only [Instr.typeAssert, Sem.run_bind, run_und hu, Result.andThen_ok]
        cases d <;> first | exact absurd rfl (hni _) | simp
      | false =>
        refine .rv hr h' ⟨u, ?_, hu'⟩
        simp only [Instr.typeAssert, Sem.run_bind, run_und hu, Result.andThen_ok]
        cases d <;> first | exact absurd rfl (hni _) | simp
    · have hq := beq_iff_f.1 hq
      rcases cond_eq_some h' with ⟨hok, h⟩ | ⟨_, h⟩ <;> clear h'
      · split at h
        · rename_i z hz
          obtain ⟨i, zv, hi, hz1, hz2⟩ := zeroA_spec hz
          refine .rv hr h ⟨.tuple #[zv, .bool false], ?_, tup2 (ofVal_ok hz2) (.bool _)⟩
          subst hok
          simp only [Instr.typeAssert, Sem.run_bind, run_und hu, Result.andThen_ok]
          cases d <;> first | exact absurd rfl (hni _) | simp [run_zero hi hz1, hq]
        · cases h
      · cases h
  · cases h

/-! ### Ranges -/
theorem run_getObj_iter {r : Nat} {s : ByteArray} {pos : Nat} (h : w.heap[r]? = some (.stringIter s pos)) : (getObj r).run P w = .ok (.stringIter s pos) w := by simp [getObj, Sem.run, h]
theorem run_setObj_iter {r : Nat} {s : ByteArray} {pos : Nat} (h : w.heap[r]? = some (.stringIter s pos)) (o : Obj) : (setObj r o).run P w = .ok () { w with heap := w.heap.setIfInBounds r o } := by simp [setObj, Sem.run, h]
theorem range_ok (hr : Rel B G σ hp w) (hB : B ≤ w.heap.size) {t : TypeId} {x : AV} {vx : Value} {r : R} (hf : Fresh σ nx r.nx) (h : doRange P hp nx t x = some r) (hx : Rv σ x vx) : OkV P B G σ hp nx w (Instr.range t vx) r := by
  unfold doRange at h
  split at h
  · rename_i s hu
    simp only [rnew, Option.some.injEq] at h; subst h
    obtain ⟨u, rfl, rfl⟩ := hx.inv_str
    have hn := hf nx (Nat.le_refl _) (Nat.lt_succ_self _)
    obtain ⟨h1, h2⟩ := hr.new (z := 0) (b := .siter (ofBA u) 0) (o := .stringIter u 0) (w' := { w with heap := w.heap.push (.stringIter u 0) }) hB hn (.siter u 0) rfl rfl rfl rfl
    refine ⟨_, _, .pointer (some ⟨w.heap.size, 0, none⟩), ?_, .ptr _ _ _ 0 (Sg.put_same _ _ _), h1, h2⟩
    simp [Instr.range, run_und hu]
  · rename_i kt et hu
    simp only [rnew, Option.some.injEq] at h; subst h
    rw [hx.inv_nilm]
    have hn := hf nx (Nat.le_refl _) (Nat.lt_succ_self _)
    obtain ⟨h1, h2⟩ := hr.new (z := 0) (b := .miter none 0 [] 0) (o := .mapIter none 0 #[] 0) (w' := { w with heap := w.heap.push (.mapIter none 0 #[] 0) }) hB hn (.miter0 0 #[] 0) rfl rfl rfl rfl
    refine ⟨_, _, .pointer (some ⟨w.heap.size, 0, none⟩), ?_, .ptr _ _ _ 0 (Sg.put_same _ _ _), h1, h2⟩
    simp [Instr.range, run_und hu]
  · rename_i kt et id hu
    split at h
    · rename_i wr es c hg
      simp only [rnew, Option.some.injEq] at h; subst h
      obtain ⟨b, z, hσ, rfl⟩ := hx.inv_map
      obtain ⟨k, z', o, hσ', hk, hro, _⟩ := hr.blk id _ hg
      rw [hσ] at hσ'; simp at hσ'; obtain ⟨rfl, rfl⟩ := hσ'
      cases hro with
      | map _ _ A _ hl hA =>
        have hn := hf nx (Nat.le_refl _) (Nat.lt_succ_self _)
        have hsub : Sub σ (σ.put nx (w.heap.size, 0)) := Sub.put _ hn
        obtain ⟨h1, h2⟩ := hr.new (z := 0) (b := .miter (some id) c [] c) (o := .mapIter (some b) c #[] c) (w' := { w with heap := w.heap.push (.mapIter (some b) c #[] c) }) hB hn (.miter id b z c #[] c (hsub _ _ hσ)) rfl rfl rfl rfl
        refine ⟨_, _, .pointer (some ⟨w.heap.size, 0, none⟩), ?_, .ptr _ _ _ 0 (Sg.put_same _ _ _), h1, h2⟩
        simp [Instr.range, run_und hu, getObj, Sem.run, hk]
    · cases h
  · cases h

/-! ### Ranges over maps -/
theorem hasB_iff {x : Nat} : ∀ {l : List Nat}, hasB x l = l.contains x := by
  intro l
  induction l with
  | nil => rfl
  | cons y l ih =>
    simp only [hasB, List.contains_cons]
    by_cases e : x = y
    · subst e; simp [beq_t]
    · rw [beq_f e]; simp [ih, e]
theorem leftA_mem {seen : List Nat} {x : AV × AV × Nat} : ∀ {es : List (AV × AV × Nat)}, x ∈ leftA seen es ↔ x ∈ es ∧ seen.contains x.2.2 = false := by
  intro es
  induction es with
  | nil => simp [leftA]
  | cons e es ih =>
    simp only [leftA]
    cases hq : hasB e.2.2 seen with
    | true =>
      simp only [cond_true, ih, List.mem_cons]
      rw [hasB_iff] at hq
      constructor
      · rintro ⟨h1, h2⟩; exact ⟨.inr h1, h2⟩
      · rintro ⟨rfl | h1, h2⟩
        · rw [hq] at h2; cases h2
        · exact ⟨h1, h2⟩
    | false =>
      simp only [cond_false, List.mem_cons, ih]
      rw [hasB_iff] at hq
      constructor
      · rintro (rfl | ⟨h1, h2⟩)
        · exact ⟨.inl rfl, hq⟩
        · exact ⟨.inr h1, h2⟩
      · rintro ⟨rfl | h1, h2⟩
        · exact .inl rfl
        · exact .inr ⟨h1, h2⟩
theorem oldA_iff {n : Nat} : ∀ {es : List (AV × AV × Nat)}, oldA n es = true ↔ ∀ e ∈ es, e.2.2 < n := by
  intro es
  induction es with
  | nil => simp [oldA]
  | cons e es ih =>
    simp only [oldA, List.mem_cons, forall_eq_or_imp]
    cases hq : Nat.blt e.2.2 n with
    | true => rw [blt_iff] at hq; simp [ih, hq]
    | false => rw [blt_iff_f] at hq; simp; omega
theorem pickRs_mem {nx id m since c : Nat} {seen : List Nat} {x : AV × AV × Nat} : ∀ {es : List (AV × AV × Nat)}, x ∈ es → pickR nx id m since seen c x ∈ pickRs nx id m since seen c es := by
  intro es
  induction es with
  | nil => simp
  | cons e es ih =>
    intro h
    simp only [pickRs, List.mem_cons]
    rcases List.mem_cons.1 h with rfl | h
    · exact .inl rfl
    · exact .inr (ih h)

theorem run_next_left {r bm since c0 : Nat} {seen : Array Nat} {es : Array MapEntry} {clock : Nat} {ty : TypeId} (hr : w.heap[r]? = some (.mapIter (some bm) since seen c0)) (hb : w.heap[bm]? = some (.map es clock))
    (hold : ∀ x ∈ es.toList, x.born < since) (hsc : since ≤ c0) :
    ((∀ e ∈ es.toList, seen.contains e.born = true) ∧ (Instr.next (.pointer (some ⟨r, 0, none⟩)) false ty).run P w = .ok (.tuple #[.bool false]) w) ∨
    ∃ e ∈ es.toList, seen.contains e.born = false ∧ ∃ n, (Instr.next (.pointer (some ⟨r, 0, none⟩)) false ty).run P w = .ok (.tuple #[.bool true, e.key, e.val]) { w with heap := w.heap.setIfInBounds r (.mapIter (some bm) since (seen.push e.born) clock), drawn := n } := by
  rcases run_next_at (P := P) w ty r bm since c0 seen es clock hr hb hold hsc with ⟨h0, h1⟩ | ⟨e, he, w1, hw1, hrun⟩
  · refine .inl ⟨fun e he => ?_, h1⟩
    cases hq : seen.contains e.born with
    | true => rfl
    | false =>
      have hm : e ∈ leftOf es seen := by
        unfold leftOf
        simp only [Array.mem_filter, hq, Bool.not_false, and_true]
        simpa using he
      have := Array.eq_empty_of_size_eq_zero h0
      rw [this] at hm; simp at hm
  · obtain ⟨g1, g2⟩ := mem_left he
    refine .inr ⟨e, g1, g2, ?_⟩
    rcases hw1 with rfl | rfl
    · exact ⟨w1.drawn, hrun⟩
    · exact ⟨w.drew.drawn, hrun⟩

theorem mapOf {id : Nat} {wr : Bool} {es : List (AV × AV × Nat)} {c : Nat} (hr : Rel B G σ hp w) (hg : hp.get id = some (.map wr es c)) {b z : Nat} (hσ : σ id = some (b, z)) :
    ∃ A : Array MapEntry, w.heap[b]? = some (.map A c) ∧ es.length = A.size ∧ ∀ (i : Nat) x e, es[i]? = some x → A[i]? = some e → Rv σ x.1 e.key ∧ Rv σ x.2.1 e.val ∧ e.born = x.2.2 := by
  obtain ⟨k, z', o, hσ', hk, hro, _⟩ := hr.blk id _ hg
  rw [hσ] at hσ'; simp at hσ'; obtain ⟨rfl, rfl⟩ := hσ'
  cases hro with
  | map _ _ A _ hl hA => exact ⟨A, hk, hl, hA⟩

theorem aget (A : Array MapEntry) (i : Nat) (h : i < A.toList.length) : A[i]? = some (A.toList[i]) := by
  have hs : i < A.size := by simpa using h
  simp [hs]

theorem picks_ok (hr : Rel B G σ hp w) {t : TypeId} {it : AV} {isS : Bool} {vi : Value} {l : List R} (h : picks hp nx it isS = some l) (hi : Rv σ it vi) :
    (l = [] ∧ (Instr.next vi isS t).run P w = .ok (.tuple #[.bool false]) w) ∨ ∃ r ∈ l, r.nx = nx ∧ OkV P B G σ hp nx w (Instr.next vi isS t) r := by
  unfold picks at h
  split at h
  · rename_i id
    obtain ⟨b, z, hσ, rfl⟩ := hi.inv_ptr
    split at h
    · rename_i m since seen st hg
      split at h
      · rename_i wr es c hm
        rcases cond_eq_some h with ⟨hq, h'⟩ | ⟨_, h'⟩ <;> clear h
        · simp only [Bool.and_eq_true] at hq
          have hold := oldA_iff.1 hq.1
          have hsc := ble_iff.1 hq.2
          simp only [Option.some.injEq] at h'; subst h'
          obtain ⟨k, z', o, hσ', hk, hro, _⟩ := hr.blk id _ hg
          rw [hσ] at hσ'; simp at hσ'; obtain ⟨rfl, rfl⟩ := hσ'
          cases hro with
          | miter _ bm zm _ sn _ hσm =>
            obtain ⟨A, hA, hl, hpt⟩ := mapOf hr hm hσm
            have hidx : ∀ e ∈ A.toList, ∃ x ∈ es, Rv σ x.1 e.key ∧ Rv σ x.2.1 e.val ∧ e.born = x.2.2 := fun e he => by
              obtain ⟨i, hi, rfl⟩ := List.getElem_of_mem he
              have hi' : i < es.length := by simpa [hl] using hi
              refine ⟨es[i], List.getElem_mem hi', hpt i _ _ (List.getElem?_eq_getElem hi') (aget A i hi)⟩
            have hidx2 : ∀ x ∈ es, ∃ e ∈ A.toList, e.born = x.2.2 := fun x hx => by
              obtain ⟨i, hi, rfl⟩ := List.getElem_of_mem hx
              have hi' : i < A.size := by simpa [hl] using hi
              exact ⟨A[i], by simp, (hpt i _ _ (List.getElem?_eq_getElem hi) (by simp [hi'])).2.2⟩
            rcases run_next_left (P := P) (ty := t) hk hA (fun e he => by obtain ⟨x, hx, _, _, e1⟩ := hidx e he; rw [e1]; exact hold x hx) hsc with ⟨hall, hrun⟩ | ⟨e, he, hns, n, hrun⟩
            · refine .inl ⟨?_, hrun⟩
              have : leftA sn.toList es = [] := by
                refine List.eq_nil_iff_forall_not_mem.2 fun x hx => ?_
                obtain ⟨h1, h2⟩ := leftA_mem.1 hx
                obtain ⟨e, he, e1⟩ := hidx2 x h1
                have := hall e he
                rw [e1, ← Array.contains_toList] at this
                rw [this] at h2; cases h2
              rw [this]; rfl
            · obtain ⟨x, hx, hk1, hv1, e1⟩ := hidx e he
              have hxl : x ∈ leftA sn.toList es := leftA_mem.2 ⟨hx, by rw [Array.contains_toList, ← e1]; exact hns⟩
              refine .inr ⟨_, pickRs_mem hxl, rfl, ?_⟩
              have hlt := (Array.getElem?_eq_some_iff.1 hk).1
              have hpush : Ro σ z (.miter (some m) since (sn.toList ++ [x.2.2]) c) (.mapIter (some bm) since (sn.push e.born) c) := by
                have := Ro.miter (σ := σ) (sz := z) m bm zm since (sn.push e.born) c hσm
                rw [Array.toList_push] at this
                rw [← e1]; exact this
              obtain ⟨h1, h2⟩ := hr.set (w' := { w with heap := w.heap.setIfInBounds b (.mapIter (some bm) since (sn.push e.born) c), drawn := n }) (b' := .miter (some m) since (sn.toList ++ [x.2.2]) c) hg rfl hσ
                (o' := .mapIter (some bm) since (sn.push e.born) c) (by simp [hlt]) hpush rfl (by simp) (fun j hj => by simp [Array.getElem?_setIfInBounds_ne (Ne.symm hj)]) rfl rfl rfl nx
              exact ⟨σ, _, .tuple #[.bool true, e.key, e.val], hrun, .tup _ [.bool true, e.key, e.val] rfl (RL.cons (.bool _) (.cons hk1 (.cons hv1 .nil))).2, h1, h2⟩
        · cases h'
      · cases h
    · cases h
  · cases h

theorem lastN_back : ∀ (l : List Nat) (b : Nat), lastN l = some b → l.getLast? = some b := by
  intro l
  induction l with
  | nil => intro b h; cases h
  | cons x l ih =>
    intro b h
    cases l with
    | nil => simpa [lastN] using h
    | cons y l => simp only [lastN] at h; rw [List.getLast?_cons_cons]; exact ih b h
theorem bornV_find {b : Nat} {x : AV} : ∀ {es : List (AV × AV × Nat)} {as : List MapEntry}, bornV b es = some x → es.length = as.length → (∀ (i : Nat) x e, es[i]? = some x → as[i]? = some e → Rv σ x.1 e.key ∧ Rv σ x.2.1 e.val ∧ e.born = x.2.2) →
    ∃ e, as.find? (·.born == b) = some e ∧ Rv σ x (.tuple #[e.key, e.val]) := by
  intro es
  induction es with
  | nil => intro as h; cases h
  | cons y es ih =>
    intro as h hl hpt
    cases as with
    | nil => simp at hl
    | cons e as =>
      obtain ⟨g1, g2, g3⟩ := hpt 0 y e rfl rfl
      simp only [bornV] at h
      rcases cond_eq_some h with ⟨hq, h'⟩ | ⟨hq, h'⟩
      · have hq := beq_iff.1 hq
        simp only [Option.some.injEq] at h'; subst h'
        refine ⟨e, by simp [g3, hq], .tup _ [e.key, e.val] rfl (RL.cons g1 (.cons g2 .nil)).2⟩
      · have hq := beq_iff_f.1 hq
        obtain ⟨e', h1, h2⟩ := ih h' (by simpa using hl) (fun i x e hx he => hpt (i + 1) x e (by simpa using hx) (by simpa using he))
        refine ⟨e', ?_, h2⟩
        rw [List.find?_cons_of_neg (by simp [g3, hq])]; exact h1
theorem entry_ok (hr : Rel B G σ hp w) {it : AV} {vi : Value} {r : R} (h : doEntry hp nx it = some r) (hi : Rv σ it vi) : OkV P B G σ hp nx w (Instr.entry vi) r := by
  unfold doEntry at h
  split at h
  · rename_i id
    obtain ⟨b, z, hσ, rfl⟩ := hi.inv_ptr
    split at h
    · rename_i m since seen st hg
      split at h
      · rename_i wr es c bb hm hlast
        rcases cond_eq_some h with ⟨hq, h'⟩ | ⟨_, h'⟩ <;> clear h
        · have hq := beq_iff.1 hq
          obtain ⟨k, z', o, hσ', hk, hro, _⟩ := hr.blk id _ hg
          rw [hσ] at hσ'; simp at hσ'; obtain ⟨rfl, rfl⟩ := hσ'
          cases hro with
          | miter _ bm zm _ sn _ hσm =>
            obtain ⟨A, hA, hl, hpt⟩ := mapOf hr hm hσm
            have hback : sn.back? = some bb := by
              have := lastN_back _ _ hlast
              simpa using this
            refine .rvO hr h' fun y hy => ?_
            obtain ⟨e, h1, h2⟩ := bornV_find (σ := σ) (as := A.toList) hy (by simpa using hl) (fun i x e hx he => hpt i x e hx (by simpa using he))
            refine ⟨.tuple #[e.key, e.val], ?_, h2⟩
            rw [Array.find?_toList] at h1
            simp only [Instr.entry, getObj, Sem.run_bind, Sem.run, hk, hA, Result.andThen, hback, hq, bne_self_eq_false, Bool.false_eq_true, if_false, h1]
            rfl
        · cases h'
      · cases h
    · cases h
  · cases h

theorem next_ok (hr : Rel B G σ hp w) {t : TypeId} {it : AV} {isS : Bool} {vi : Value} {r : R} (h : doNext hp nx it isS = some r) (hi : Rv σ it vi) : OkV P B G σ hp nx w (Instr.next vi isS t) r := by
  unfold doNext at h
  split at h
  · rename_i id
    obtain ⟨b, z, hσ, rfl⟩ := hi.inv_ptr
    split at h
    · rename_i s pos hg
      obtain ⟨k, z', o, hσ', hk, hro, hB⟩ := hr.blk id _ hg
      rw [hσ] at hσ'; simp at hσ'; obtain ⟨rfl, rfl⟩ := hσ'
      cases hro with
      | siter u _ =>
        have hgo : (getObj b).run P w = .ok (.stringIter u pos) w := run_getObj_iter hk
        split at h
        · rename_i hnone
          rw [nthS_get] at hnone
          have hlen : (ofBA u).length ≤ pos := by simpa using hnone
          rw [ofBA_length] at hlen
          refine .rv hr h ⟨.tuple #[.bool false], ?_, .tup [.bool false] [.bool false] rfl (RL.cons (.bool _) .nil).2⟩
          simp only [Instr.next, Sem.run_bind, hgo, Result.andThen_ok]
          simp [Nat.not_lt.2 hlen]
        · rename_i bb hsome
          rw [nthS_get] at hsome
          rcases cond_eq_some h with ⟨hq, h'⟩ | ⟨_, h'⟩ <;> clear h
          · have hq := blt_iff.1 hq
            simp only [rset, Option.some.injEq] at h'; subst h'
            have hlt : pos < u.size := by rw [← ofBA_length]; exact (List.getElem?_eq_some_iff.1 hsome).1
            have hbb : (u[pos]'hlt).toNat = bb := by
              simp only [ofBA, List.getElem?_map, Option.map_eq_some_iff] at hsome
              obtain ⟨b', hb', e⟩ := hsome
              rw [Array.getElem?_toList] at hb'
              have := (Array.getElem?_eq_some_iff.1 hb').2
              rw [← e, ← this]; rfl
            have hdec := decode_ascii u pos hlt (by rw [hbb]; exact hq)
            rw [hbb] at hdec
            obtain ⟨h1, h2⟩ := hr.set (w' := { w with heap := w.heap.setIfInBounds b (.stringIter u (pos + 1)) }) (b' := .siter (ofBA u) (pos + 1)) hg rfl hσ (o' := .stringIter u (pos + 1)) (by have := (Array.getElem?_eq_some_iff.1 hk).1; simp [this]) (.siter u _) rfl (by simp) (fun j hj => by simp [Array.getElem?_setIfInBounds_ne (Ne.symm hj)]) rfl rfl rfl nx
            refine ⟨σ, _, .tuple #[.bool true, goInt pos, .int .i32 bb], ?_, .tup _ [.bool true, goInt pos, .int .i32 bb] rfl (RL.cons (.bool _) (.cons (.int _ _) (.cons (.int _ _) .nil))).2, h1, h2⟩
            simp only [Instr.next, Sem.run_bind, hgo, Result.andThen_ok, hdec]
            simp [hlt, run_setObj_iter hk]
          · cases h'
    · cases h
  · rename_i id
    split at h
    · rename_i hg
      obtain ⟨b, z, hσ, rfl⟩ := hi.inv_ptr
      obtain ⟨k, z', o, hσ', hk, hro, hB⟩ := hr.blk id _ hg
      rw [hσ] at hσ'; simp at hσ'; obtain ⟨rfl, rfl⟩ := hσ'
      cases hro with
      | miter0 _ sn _ =>
        refine .rv hr h ⟨.tuple #[.bool false], ?_, .tup [.bool false] [.bool false] rfl (RL.cons (.bool _) .nil).2⟩
        simp [Instr.next, getObj, Sem.run, hk]
    · split at h
      · rename_i hpk
        rcases picks_ok (P := P) (t := t) hr hpk hi with ⟨_, hrun⟩ | ⟨r', hr', _⟩
        · exact .rv hr h ⟨.tuple #[.bool false], hrun, .tup [.bool false] [.bool false] rfl (RL.cons (.bool _) .nil).2⟩
        · cases hr'
      · rename_i r' hpk
        simp only [Option.some.injEq] at h; subst h
        rcases picks_ok (P := P) (t := t) hr hpk hi with ⟨h0, _⟩ | ⟨r2, hr2, _, hok⟩
        · cases h0
        · simp only [List.mem_singleton] at hr2; subst hr2; exact hok
      · cases h
    · cases h
  · cases h
end
end Go.Ex
