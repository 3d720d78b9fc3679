/-
  The abstract machine: numbers, conversions, interface values, ranges, the smaller builtins.
-/
import Derived.Test.YtdocondniobcdaaGreatDoorExOps6
import Derived.Laws.BytesString
import Derived.Laws.RangeString
namespace Go.Ex

section
variable {P : Program} {B G : Nat} {σ : Sg} {hp : Tr Blk} {nx : Nat} {w : World}

/-! ### Operators -/
theorem eqP_known {d : TypeDesc} {x y : AV} {b : Bool} (h : eqP d x y = some b) : x ≠ .junk ∧ y ≠ .junk ∧ ¬ ∃ l m, x = .agg l ∧ y = .agg m := by
  refine ⟨?_, ?_, ?_⟩
  · rintro rfl; simp [eqP] at h
  · rintro rfl; simp [eqP] at h
  · rintro ⟨l, m, rfl, rfl⟩; simp [eqP] at h
theorem eqV_known {t : TypeId} {x y : AV} {b : Bool} (h : eqV P t x y = some b) : x ≠ .junk ∧ y ≠ .junk ∧ ¬ ∃ l m, x = .agg l ∧ y = .agg m := by
  unfold eqV at h
  split at h
  · refine ⟨by simp, by simp, ?_⟩; rintro ⟨l, m, e, _⟩; cases e
  · exact eqP_known h
  · cases h

theorem binA_known {op : BinOp} {t : TypeId} {x y z : AV} (h : binA P op t x y = some z) : x ≠ .junk ∧ y ≠ .junk ∧ ¬ ∃ l m, x = .agg l ∧ y = .agg m := by
  unfold binA at h
  split at h
  · exact ⟨by simp, by simp, by rintro ⟨l, m, e, _⟩; cases e⟩
  · exact ⟨by simp, by simp, by rintro ⟨l, m, e, _⟩; cases e⟩
  · split at h
    · split at h
      · rename_i he; exact eqV_known he
      · cases h
    · split at h
      · rename_i he; exact eqV_known he
      · cases h
    · cases h

theorem binOp_eql {t : TypeId} {x y : Value} (h1 : ∀ k a k' b, ¬ (x = .int k a ∧ y = .int k' b)) (h2 : ∀ a b, ¬ (x = .string a ∧ y = .string b)) (h3 : ∀ k a, x ≠ .float k a) (h4 : ∀ k a b, x ≠ .complex k a b) :
    binOp .eql t x y = (do pure (.bool (← Op.equal t x y))) := by
  cases x <;> cases y <;> first
    | rfl
    | exact absurd ⟨rfl, rfl⟩ (h1 _ _ _ _)
    | exact absurd ⟨rfl, rfl⟩ (h2 _ _)
    | exact absurd rfl (h3 _ _)
    | exact absurd rfl (h4 _ _ _)
theorem binOp_neq {t : TypeId} {x y : Value} (h1 : ∀ k a k' b, ¬ (x = .int k a ∧ y = .int k' b)) (h2 : ∀ a b, ¬ (x = .string a ∧ y = .string b)) (h3 : ∀ k a, x ≠ .float k a) (h4 : ∀ k a b, x ≠ .complex k a b) :
    binOp .neq t x y = (do pure (.bool (!(← Op.equal t x y)))) := by
  cases x <;> cases y <;> first
    | rfl
    | exact absurd ⟨rfl, rfl⟩ (h1 _ _ _ _)
    | exact absurd ⟨rfl, rfl⟩ (h2 _ _)
    | exact absurd rfl (h3 _ _)
    | exact absurd rfl (h4 _ _ _)

theorem eqP_flt {d : TypeDesc} {x y : AV} {b : Bool} (h : eqP d x y = some b) : (∀ k n, x ≠ .flt k n) ∧ (∀ k n, y ≠ .flt k n) := by
  refine ⟨fun k n e => ?_, fun k n e => ?_⟩
  · subst e; simp [eqP] at h
  · subst e; simp [eqP] at h
theorem eqV_flt {t : TypeId} {x y : AV} {b : Bool} (h : eqV P t x y = some b) : (∀ k n, x ≠ .flt k n) ∧ (∀ k n, y ≠ .flt k n) := by
  unfold eqV at h
  split at h
  · exact ⟨fun _ _ e => (by cases e), fun _ _ e => (by cases e)⟩
  · exact eqP_flt h
  · cases h

theorem rv_int {x : AV} {k : IntKind} {n : Int} (hx : Rv σ x (.int k n)) (hj : x ≠ .junk) : x = .int k n := by
  cases hx <;> first | rfl | exact absurd rfl hj
theorem rv_str {x : AV} {s : ByteArray} (hx : Rv σ x (.string s)) (hj : x ≠ .junk) : x = .str (ofBA s) := by
  cases hx <;> first | rfl | exact absurd rfl hj
theorem rv_nflt {x : AV} {v : Value} (hx : Rv σ x v) (hj : x ≠ .junk) (hf : ∀ k n, x ≠ .flt k n) : (∀ k a, v ≠ .float k a) ∧ (∀ k a b, v ≠ .complex k a b) := by
  refine ⟨fun k a e => ?_, fun k a b e => ?_⟩
  · subst e; cases hx <;> first | exact absurd rfl hj | exact absurd rfl (hf _ _)
  · subst e; cases hx <;> first | exact absurd rfl hj

theorem bin_ok {op : BinOp} {t : TypeId} {x y z : AV} {vx vy : Value} (h : binA P op t x y = some z) (hx : Rv σ x vx) (hy : Rv σ y vy) : Runs P σ w (binOp op t vx vy) z := by
  have hk := binA_known h
  unfold binA at h
  split at h
  · rename_i k a k' b
    rw [hx.inv_int, hy.inv_int]
    split at h
    · exact shift_ok (P := P) (yk := k') (op := .shl) h
    · exact shift_ok (P := P) (yk := k') (op := .shr) h
    · rename_i h1 h2
      rcases cond_eq_some h with ⟨hb, h⟩ | ⟨_, h⟩
      · rw [← eqK_iff hb]; exact int_ok h h1 h2
      · cases h
  · rename_i a b
    obtain ⟨s, rfl, rfl⟩ := hx.inv_str; obtain ⟨u, rfl, rfl⟩ := hy.inv_str
    split at h
    · cases h
    · cases h
    · rename_i h1 h2; exact str_ok h h1 h2
  · rename_i hni hns
    have g1 : ∀ k a k' b, ¬ (vx = .int k a ∧ vy = .int k' b) := by
      rintro k a k' b ⟨rfl, rfl⟩; exact hni _ _ _ _ (rv_int hx hk.1) (rv_int hy hk.2.1)
    have g2 : ∀ a b, ¬ (vx = .string a ∧ vy = .string b) := by
      rintro a b ⟨rfl, rfl⟩; exact hns _ _ (rv_str hx hk.1) (rv_str hy hk.2.1)
    split at h
    · split at h
      · rename_i b he
        simp only [Option.some.injEq] at h; subst h
        obtain ⟨g3, g4⟩ := rv_nflt hx hk.1 (eqV_flt he).1
        refine ⟨.bool b, ?_, .bool b⟩
        rw [binOp_eql g1 g2 g3 g4]
        have := eqV_ok (P := P) (w := w) (n := Op.maxDepth - 2) he hx hy
        have : (Op.equal t vx vy).run P w = .ok b w := this
        simp [this]
      · cases h
    · split at h
      · rename_i b he
        simp only [Option.some.injEq] at h; subst h
        obtain ⟨g3, g4⟩ := rv_nflt hx hk.1 (eqV_flt he).1
        refine ⟨.bool (!b), ?_, .bool (!b)⟩
        rw [binOp_neq g1 g2 g3 g4]
        have := eqV_ok (P := P) (w := w) (n := Op.maxDepth - 2) he hx hy
        have : (Op.equal t vx vy).run P w = .ok b w := this
        simp [this]
      · cases h
    · cases h

theorem un_ok {op : UnOp} {x z : AV} {vx : Value} (h : unA op x = some z) (hx : Rv σ x vx) : Runs P σ w (Op.unary op vx) z := by
  unfold unA at h
  split at h
  · rename_i b
    rw [hx.inv_bool]
    simp only [Option.some.injEq] at h; subst h
    exact ⟨_, rfl, .bool _⟩
  · rename_i k n
    rw [hx.inv_int]
    simp only [Option.some.injEq] at h; subst h
    rw [wrapA_eq]
    exact ⟨_, rfl, .int _ _⟩
  · cases h

/-! ### Conversions -/
theorem bytes_spec : ∀ {cs : List AV} {b : List Nat} {vs : List Value}, bytesOfCells cs = some b → RL σ cs vs → vs = b.map (fun n => Value.int .u8 (.ofNat n)) ∧ ∀ n ∈ b, n < 256 := by
  intro cs
  induction cs with
  | nil => intro b vs h hr; simp [bytesOfCells] at h; subst h; rw [hr.of_nil]; simp
  | cons x cs ih =>
    intro b vs h hr
    obtain ⟨v, us, rfl, hx, hr'⟩ := hr.uncons
    unfold bytesOfCells at h
    split at h
    · rename_i heq; cases heq
    · rename_i n l heq
      cases heq
      split at h
      · rename_i r hr2
        rcases cond_eq_some h with ⟨hb, h⟩ | ⟨_, h⟩
        · simp only [Option.some.injEq] at h; subst h
          obtain ⟨e, hlt⟩ := ih hr2 hr'
          rw [hx.inv_int, e]
          exact ⟨rfl, by intro m hm; rcases List.mem_cons.1 hm with rfl | hm; exact blt_iff.1 hb; exact hlt m hm⟩
        · cases h
      · cases h
    · cases h

theorem foldl_bytes : ∀ (b : List Nat) (s : ByteArray), (∀ n ∈ b, n < 256) → ofBA ((b.map Int.ofNat).foldl (fun r n => r.push (UInt8.ofNat n.toNat)) s) = ofBA s ++ b := by
  intro b
  induction b with
  | nil => intro s _; simp
  | cons n b ih =>
    intro s h
    simp only [List.map_cons, List.foldl_cons]
    rw [ih _ (fun m hm => h m (by simp [hm]))]
    have := h n (by simp)
    have e : (UInt8.ofNat n).toNat = n := by simp; omega
    simp [ofBA, e]

theorem push_modify (a : Array Obj) (o : Obj) (f : Obj → Obj) : (a.push o).modify a.size f = a.push (f o) := by
  apply Array.ext_getElem?
  intro i
  rw [Array.getElem?_modify, Array.getElem?_push, Array.getElem?_push]
  by_cases h : i = a.size
  · simp [h]
  · simp [h, Ne.symm h]

theorem run_stringToBytes (e : TypeId) (s : ByteArray) : ∃ c w', s.size ≤ c ∧ (Conv.stringToBytes e s).run P w = .ok (.slice (some ⟨w.heap.size, 0, none⟩) s.size c) w' ∧
    w'.heap = w.heap.push (.cells (s.data.map (fun b => Value.int .u8 b.toNat) ++ Array.replicate (c - s.size) (.int .u8 0)) e (c, c + 1)) ∧ w'.os = w.os ∧ w'.tape = w.tape ∧ w'.output = w.output := by
  let c := (Question.appendCap s.size 0 e).cut (w.tape w.drawn (.appendCap s.size 0 e))
  have hc : s.size ≤ c := by simp [c, Question.cut]
  let cs := s.data.map (fun b => Value.int .u8 b.toNat) ++ Array.replicate (c - s.size) (.int .u8 0)
  have hsz : cs.size = c := by
    have : s.data.size = s.size := rfl
    simp only [cs, Array.size_append, Array.size_map, Array.size_replicate, this]; omega
  let w1 : World := { w with drawn := w.drawn + 1, heap := w.heap.push (.cells cs e) }
  have hsh : w1.shape? w.heap.size = some (e, c) := by simp [World.shape?, w1, hsz]
  refine ⟨c, w1.freeze { block := w.heap.size, off := c } 1, hc, ?_, ?_, rfl, rfl, rfl⟩
  · simp only [Conv.stringToBytes, Sem.run_bind, run_choose, Question.forced, Bool.false_eq_true, if_false, Result.andThen_ok, newRow, markStringish, run_newObj, Sem.run_pure, run_shape]
    show ((match w1.shape? w.heap.size with | some (_, n) => freeze { block := w.heap.size, off := n } 1 | x => pure () : Sem Unit).run P w1).andThen _ = _
    rw [hsh]
    rfl
  · simp only [World.freeze, w1]
    rw [if_neg (by decide)]
    have key := push_modify w.heap (Obj.cells cs e) (fun x => match x with
      | .cells c_1 elem (lo, hi) => .cells c_1 elem (if lo == hi then (c, c + 1) else (min lo c, max hi (c + 1)))
      | o => o)
    exact key

theorem convert_ok (hr : Rel B G σ hp w) (hB : B ≤ w.heap.size) {src dst : TypeId} {x : AV} {vx : Value} {r : R} (hf : Fresh σ nx r.nx) (h : doConvert P hp nx src dst x = some r) (hx : Rv σ x vx) : OkV P B G σ hp nx w (convert src dst vx) r := by
  unfold doConvert at h
  split at h
  · rename_i s k hs hd
    split at h
    · rename_i kk n
      refine .rv hr h ⟨.int k (k.wrap n), ?_, by rw [wrapA_eq]; exact .int _ _⟩
      rw [hx.inv_int]
      simp [convert, run_und hs, run_und hd, Conv.intToInt]
    · cases h
  · rename_i s hs hd
    split at h
    · rename_i b
      obtain ⟨u, rfl, rfl⟩ := hx.inv_str
      refine .rv hr h ⟨.string u, ?_, .str u⟩
      cases s <;> simp [convert, run_und hs, run_und hd]
    · rename_i kk n
      refine .rv hr h ⟨.string (Utf8.encode (.ofNat n)), ?_, .str _⟩
      rw [hx.inv_int]
      cases s <;> simp [convert, run_und hs, run_und hd, Conv.intToString]
    · rw [hx.inv_nils]
      split at h
      · rename_i e
        split at h
        · rename_i he
          refine .rv hr h ⟨.string .empty, ?_, .str .empty⟩
          rw [run_convert_bytes_string w src dst e _ _ _ hs he hd]
          rfl
        · cases h
      · cases h
    · rename_i id off len cap es
      split at h
      · rename_i e
        split at h
        · rename_i wr o l he hg
          split at h
          · rename_i cs hcs
            split at h
            · rename_i b hb
              obtain ⟨bk, z, c, hσ, rfl⟩ := hx.inv_sl
              obtain ⟨k, z', cc, t, fr, hσ', hk, hz, ho, hl, hfz, hc, hBk⟩ := hr.cells hg
              rw [hσ] at hσ'; simp at hσ'; obtain ⟨rfl, rfl⟩ := hσ'
              obtain ⟨g1, g2, g3⟩ := hc.sub hcs hl
              obtain ⟨e1, e2⟩ := bytes_spec hb g1
              have hload := run_loadCells (P := P) (w := w) hk g3
              rw [e1] at hload
              refine .rv hr h ⟨.string ((b.map Int.ofNat).foldl (fun r n => r.push (UInt8.ofNat n.toNat)) ByteArray.empty), ?_, ?_⟩
              · rw [run_convert_bytes_string w src dst e _ _ _ hs he hd]
                exact run_bytesToString w _ len c (b.map Int.ofNat) (by rw [hload, List.map_map]; rfl)
              · have e3 : b = ofBA ((b.map Int.ofNat).foldl (fun r n => r.push (UInt8.ofNat n.toNat)) ByteArray.empty) := by rw [foldl_bytes b _ e2]; simp [ofBA]
                conv => arg 2; rw [e3]
                exact .str _
            · cases h
          · cases h
        · cases h
      · cases h
    · cases h
  · rename_i s e hs hd
    split at h
    · rename_i b he
      obtain ⟨u, rfl, rfl⟩ := hx.inv_str
      simp only [rnew, Option.some.injEq] at h; subst h
      obtain ⟨c, w', hc, hrun, hh, h1, h2, h3⟩ := run_stringToBytes (P := P) (w := w) e u
      have hn := hf nx (Nat.le_refl _) (Nat.lt_succ_self _)
      have hds : u.data.size = u.size := rfl
      have hsz : (u.data.map (fun (b : UInt8) => Value.int .u8 b.toNat) ++ Array.replicate (c - u.size) (Value.int .u8 0)).size = c := by
        simp only [Array.size_append, Array.size_map, Array.size_replicate, hds]; omega
      refine OkV.newCells hr hB hn (s := convert src dst (.string u)) (cv := .slice (some ⟨w.heap.size, 0, none⟩) u.size c) ?_ hh h1 h2 h3 ⟨?_, ?_⟩ (fun h => by cases h) ?_ ?_ ?_
      · rw [← hrun]
        cases s <;> simp [convert, run_und hs, run_und hd, run_und he]
      · intro i x hx'
        simp only [ofBA, List.map_map, List.getElem?_map, Option.map_eq_some_iff] at hx'
        obtain ⟨b, hb, rfl⟩ := hx'
        refine ⟨.int .u8 b.toNat, ?_, .int _ _⟩
        have hb' : u.data[i]? = some b := by rw [← Array.getElem?_toList]; exact hb
        have hlt := (Array.getElem?_eq_some_iff.1 hb').1
        rw [Array.getElem?_append_left (by simpa using hlt)]
        simp [hb']
      · intro i v hv
        have hm := Array.mem_of_getElem? hv
        simp only [Array.mem_append, Array.mem_map, Array.mem_replicate] at hm
        rcases hm with ⟨b, _, rfl⟩ | ⟨_, rfl⟩ <;> rfl
      · rw [hsz, List.length_map, ofBA_length]; exact hc
      · rw [hsz]; intro i hi; simp only; omega
      · rw [hsz, ofBA_length]
        exact .slo _ _ _ c _ _ _ (Sg.put_same _ _ _) (by omega)
    · cases h
  · cases h

/-! ### Interface values -/
theorem makeIface_ok (hr : Rel B G σ hp w) {t : TypeId} {x : AV} {vx : Value} {r : R} (h : doMakeIface P nx t x = some r) (hx : Rv σ x vx) : OkV P B G σ hp nx w (Instr.makeInterface t vx) r := by
  unfold doMakeIface at h
  split at h
  · cases h
  · cases h
  · rename_i d hni hu
    refine .rv hr h ⟨.iface t vx, ?_, .iface t x vx hx⟩
    simp only [Instr.makeInterface, Sem.run_bind, run_und hu, Result.andThen_ok]
    cases d <;> first | rfl | exact absurd rfl (hni _)

theorem tup2 {x y : AV} {a b : Value} (hx : Rv σ x a) (hy : Rv σ y b) : Rv σ (.tup [x, y]) (.tuple #[a, b]) := .tup _ [a, b] rfl (RL.cons hx (.cons hy .nil)).2

theorem assert_ok (hr : Rel B G σ hp w) {t asserted : TypeId} {ok : Bool} {x : AV} {vx : Value} {r : R} (h : doAssert P nx x asserted ok = some r) (hx : Rv σ x vx) :
    OkV P B G σ hp nx w (Instr.typeAssert vx t asserted ok) r := by
  unfold doAssert at h
  split at h
  · cases h
  · rename_i d hni hu
    rcases cond_eq_some h with ⟨hok, h'⟩ | ⟨_, h'⟩ <;> clear h
    · split at h'
      · rename_i z hz
        obtain ⟨i, zv, hi, hz1, hz2⟩ := zeroA_spec hz
        refine .rv hr h' ⟨.tuple #[zv, .bool false], ?_, tup2 (ofVal_ok hz2) (.bool _)⟩
        subst hok
        rw [hx.inv_nili]
        simp only [Instr.typeAssert, Sem.run_bind, run_und hu, Result.andThen_ok]
        cases d <;> first | exact absurd rfl (hni _) | simp [run_zero hi hz1]
      · cases h'
    · cases h'
  · rename_i d hni _ _ tt v hu
    obtain ⟨u, hu', rfl⟩ := hx.inv_iface
    rcases cond_eq_some h with ⟨hq, h'⟩ | ⟨hq, h'⟩ <;> clear h
    · have hq := beq_iff.1 hq; subst hq
      cases ok with
      | true =>
        refine .rv hr h' ⟨.tuple #[u, .bool true], ?_, tup2 hu' (.bool _)⟩
        simp only [Instr.typeAssert, Sem.run_bind, run_und hu, Result.andThen_ok]
        cases d <;> first | exact absurd rfl (hni _) | simp
      | false =>
        refine .rv hr h' ⟨u, ?_, hu'⟩
        simp only [Instr.typeAssert, Sem.run_bind, run_und hu, Result.andThen_ok]
        cases d <;> first | exact absurd rfl (hni _) | simp
    · have hq := beq_iff_f.1 hq
      rcases cond_eq_some h' with ⟨hok, h⟩ | ⟨_, h⟩ <;> clear h'
      · split at h
        · rename_i z hz
          obtain ⟨i, zv, hi, hz1, hz2⟩ := zeroA_spec hz
          refine .rv hr h ⟨.tuple #[zv, .bool false], ?_, tup2 (ofVal_ok hz2) (.bool _)⟩
          subst hok
          simp only [Instr.typeAssert, Sem.run_bind, run_und hu, Result.andThen_ok]
          cases d <;> first | exact absurd rfl (hni _) | simp [run_zero hi hz1, hq]
        · cases h
      · cases h
  · cases h

/-! ### Ranges -/
theorem run_getObj_iter {r : Nat} {s : ByteArray} {pos : Nat} (h : w.heap[r]? = some (.stringIter s pos)) : (getObj r).run P w = .ok (.stringIter s pos) w := by simp [getObj, Sem.run, h]
theorem run_setObj_iter {r : Nat} {s : ByteArray} {pos : Nat} (h : w.heap[r]? = some (.stringIter s pos)) (o : Obj) : (setObj r o).run P w = .ok () { w with heap := w.heap.setIfInBounds r o } := by simp [setObj, Sem.run, h]
theorem range_ok (hr : Rel B G σ hp w) (hB : B ≤ w.heap.size) {t : TypeId} {x : AV} {vx : Value} {r : R} (hf : Fresh σ nx r.nx) (h : doRange P nx t x = some r) (hx : Rv σ x vx) : OkV P B G σ hp nx w (Instr.range t vx) r := by
  unfold doRange at h
  split at h
  · rename_i s hu
    simp only [rnew, Option.some.injEq] at h; subst h
    obtain ⟨u, rfl, rfl⟩ := hx.inv_str
    have hn := hf nx (Nat.le_refl _) (Nat.lt_succ_self _)
    obtain ⟨h1, h2⟩ := hr.new (z := 0) (b := .siter (ofBA u) 0) (o := .stringIter u 0) (w' := { w with heap := w.heap.push (.stringIter u 0) }) hB hn (.siter u 0) rfl rfl rfl rfl
    refine ⟨_, _, .pointer (some ⟨w.heap.size, 0, none⟩), ?_, .ptr _ _ _ 0 (Sg.put_same _ _ _), h1, h2⟩
    simp [Instr.range, run_und hu]
  · cases h

theorem next_ok (hr : Rel B G σ hp w) {t : TypeId} {it : AV} {isS : Bool} {vi : Value} {r : R} (h : doNext hp nx it isS = some r) (hi : Rv σ it vi) : OkV P B G σ hp nx w (Instr.next vi isS t) r := by
  unfold doNext at h
  split at h
  · rename_i id
    obtain ⟨b, z, hσ, rfl⟩ := hi.inv_ptr
    split at h
    · rename_i s pos hg
      obtain ⟨k, z', o, hσ', hk, hro, hB⟩ := hr.blk id _ hg
      rw [hσ] at hσ'; simp at hσ'; obtain ⟨rfl, rfl⟩ := hσ'
      cases hro with
      | siter u _ =>
        have hgo : (getObj b).run P w = .ok (.stringIter u pos) w := run_getObj_iter hk
        split at h
        · rename_i hnone
          rw [nthS_get] at hnone
          have hlen : (ofBA u).length ≤ pos := by simpa using hnone
          rw [ofBA_length] at hlen
          refine .rv hr h ⟨.tuple #[.bool false], ?_, .tup [.bool false] [.bool false] rfl (RL.cons (.bool _) .nil).2⟩
          simp only [Instr.next, Sem.run_bind, hgo, Result.andThen_ok]
          simp [Nat.not_lt.2 hlen]
        · rename_i bb hsome
          rw [nthS_get] at hsome
          rcases cond_eq_some h with ⟨hq, h'⟩ | ⟨_, h'⟩ <;> clear h
          · have hq := blt_iff.1 hq
            simp only [rset, Option.some.injEq] at h'; subst h'
            have hlt : pos < u.size := by rw [← ofBA_length]; exact (List.getElem?_eq_some_iff.1 hsome).1
            have hbb : (u[pos]'hlt).toNat = bb := by
              simp only [ofBA, List.getElem?_map, Option.map_eq_some_iff] at hsome
              obtain ⟨b', hb', e⟩ := hsome
              rw [Array.getElem?_toList] at hb'
              have := (Array.getElem?_eq_some_iff.1 hb').2
              rw [← e, ← this]; rfl
            have hdec := decode_ascii u pos hlt (by rw [hbb]; exact hq)
            rw [hbb] at hdec
            obtain ⟨h1, h2⟩ := hr.set (w' := { w with heap := w.heap.setIfInBounds b (.stringIter u (pos + 1)) }) (b' := .siter (ofBA u) (pos + 1)) hg rfl hσ (o' := .stringIter u (pos + 1)) (by have := (Array.getElem?_eq_some_iff.1 hk).1; simp [this]) (.siter u _) rfl (by simp) (fun j hj => by simp [Array.getElem?_setIfInBounds_ne (Ne.symm hj)]) rfl rfl rfl nx
            refine ⟨σ, _, .tuple #[.bool true, goInt pos, .int .i32 bb], ?_, .tup _ [.bool true, goInt pos, .int .i32 bb] rfl (RL.cons (.bool _) (.cons (.int _ _) (.cons (.int _ _) .nil))).2, h1, h2⟩
            simp only [Instr.next, Sem.run_bind, hgo, Result.andThen_ok, hdec]
            simp [hlt, run_setObj_iter hk]
          · cases h'
    · cases h
  · cases h
end
end Go.Ex
