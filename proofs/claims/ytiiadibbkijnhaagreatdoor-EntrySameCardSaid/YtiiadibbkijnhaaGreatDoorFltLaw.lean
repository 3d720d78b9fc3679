/-
  What a filter is, in plain Lean: pieces of a text, words, descriptions, the parts that may be, the bounds. No program.
-/
import Derived.Lib.SplitLaws
namespace Go.FltLaw

/-! ### Pieces of a text -/
def pieces (c : UInt8) : List UInt8 → List (List UInt8)
  | [] => [[]]
  | b :: l => if b = c then [] :: pieces c l else
    match pieces c l with
    | [] => [[b]]
    | p :: ps => (b :: p) :: ps

theorem pieces_ne (c : UInt8) : ∀ l, pieces c l ≠ []
  | [] => by simp [pieces]
  | b :: l => by
    unfold pieces
    split
    · simp
    · split <;> simp

theorem pieces_cons_ne {c b : UInt8} {l : List UInt8} (h : b ≠ c) : ∃ p ps, pieces c l = p :: ps ∧ pieces c (b :: l) = (b :: p) :: ps := by
  cases hp : pieces c l with
  | nil => exact absurd hp (pieces_ne c l)
  | cons p ps => exact ⟨p, ps, rfl, by rw [pieces, if_neg h, hp]⟩

/-- A text without the byte is one piece. -/
theorem pieces_none {c : UInt8} : ∀ {l : List UInt8}, (∀ b ∈ l, b ≠ c) → pieces c l = [l]
  | [], _ => rfl
  | b :: l, h => by
    rw [pieces, if_neg (h b (by simp)), pieces_none (fun x hx => h x (by simp [hx]))]

/-- The first piece, and the others. -/
theorem pieces_cut {c : UInt8} : ∀ {p : List UInt8} {r : List UInt8}, (∀ b ∈ p, b ≠ c) → pieces c (p ++ c :: r) = p :: pieces c r
  | [], r, _ => by rw [List.nil_append, pieces, if_pos rfl]
  | b :: p, r, h => by
    rw [List.cons_append, pieces, if_neg (h b (by simp)), pieces_cut (fun x hx => h x (by simp [hx]))]

theorem pieces_length (c : UInt8) : ∀ l, (pieces c l).length = l.count c + 1
  | [] => rfl
  | b :: l => by
    by_cases h : b = c
    · subst h; rw [pieces, if_pos rfl, List.length_cons, pieces_length b l, List.count_cons_self]
    · obtain ⟨p, ps, e, e'⟩ := pieces_cons_ne (l := l) h
      rw [e', List.count_cons_of_ne (by simpa using h), ← pieces_length c l, e]
      rfl

theorem index_cons (c b : UInt8) (l : List UInt8) (h : b ≠ c) : Lib.index (b :: l) [c] = if Lib.index l [c] == -1 then -1 else Lib.index l [c] + 1 := by
  have hp : ([c] : List UInt8).isPrefixOf (b :: l) = false := by simp [List.isPrefixOf, Ne.symm h]
  rw [Lib.index, hp]; simp
theorem index_self (c : UInt8) (l : List UInt8) : Lib.index (c :: l) [c] = 0 := by rw [Lib.index]; simp [List.isPrefixOf]
theorem index_none (c : UInt8) : ∀ l, (∀ b ∈ l, b ≠ c) → Lib.index l [c] = -1
  | [], _ => by simp [Lib.index]
  | b :: l, h => by rw [index_cons c b l (h b (by simp)), index_none c l fun x hx => h x (by simp [hx])]; rfl
theorem index_some (c : UInt8) : ∀ l, c ∈ l → ∃ j : Nat, Lib.index l [c] = j ∧ j < l.length
  | [], h => by cases h
  | b :: l, h => by
    by_cases hb : b = c
    · subst hb; exact ⟨0, index_self b l, by simp⟩
    · have hm : c ∈ l := by
        rcases List.mem_cons.1 h with e | e
        · exact absurd e.symm hb
        · exact e
      obtain ⟨j, e, hj⟩ := index_some c l hm
      refine ⟨j + 1, ?_, by simpa using hj⟩
      rw [index_cons c b l hb, e, if_neg (by simp)]
      omega

theorem splitK_pieces (c : UInt8) : ∀ l : List UInt8, Lib.splitK [c] 0 (l.count c) l = pieces c l
  | [] => rfl
  | b :: l => by
    by_cases h : b = c
    · subst h
      rw [List.count_cons_self, Lib.splitK, index_self, if_neg (by decide), pieces, if_pos rfl, ← splitK_pieces b l]
      simp
    · rw [List.count_cons_of_ne (by simpa using h)]
      obtain ⟨p, ps, e, e'⟩ := pieces_cons_ne (l := l) h
      rw [e']
      have ih := splitK_pieces c l
      rw [e] at ih
      cases hk : l.count c with
      | zero =>
        rw [hk] at ih
        simp only [Lib.splitK, List.cons.injEq] at ih ⊢
        exact ⟨⟨trivial, ih.1⟩, ih.2⟩
      | succ k =>
        rw [hk] at ih
        obtain ⟨j, hj, _⟩ := index_some c l (List.count_pos_iff.1 (by omega))
        rw [Lib.splitK, hj, if_neg (by simp)] at ih
        rw [Lib.splitK, index_cons c b l h, hj, if_neg (by simp; omega), if_neg (by simp)]
        simp only [List.cons.injEq, Int.toNat_natCast, Nat.add_zero] at ih ⊢
        have e2 : ((j : Int) + 1).toNat = j + 1 := by omega
        rw [e2]
        refine ⟨?_, ?_⟩
        · rw [List.take_succ_cons, ih.1]
        · rw [← ih.2]
          simp [Nat.add_assoc]

theorem split_pieces (c : UInt8) (l : List UInt8) : (Lib.splitB ⟨#[c]⟩ 0 (Lib.countB ⟨l.toArray⟩ ⟨#[c]⟩) ⟨l.toArray⟩).map (·.data.toList) = pieces c l := by
  rw [Lib.splitB_data]
  show Lib.splitK [c] 0 (Lib.count l [c]) l = _
  rw [Lib.count_one, splitK_pieces]

/-! ### Words and descriptions -/
def letter (b : UInt8) : Bool := (97 ≤ b.toNat && b.toNat ≤ 122) || (65 ≤ b.toNat && b.toNat ≤ 90)
def digit (b : UInt8) : Bool := 48 ≤ b.toNat && b.toNat ≤ 57
def wordy (b : UInt8) : Bool := letter b || digit b || b == 45
def allOf (p : UInt8 → Bool) (l : List UInt8) : Bool := l.all p && !l.isEmpty
def row (l : List UInt8) : Bool := allOf digit l && !(l.headD 0 == 48 && 1 < l.length)
def word (l : List UInt8) : Bool :=
  if !l.isEmpty && letter (l.headD 0) then allOf wordy l else (pieces 46 l).all row && 1 < (pieces 46 l).length
def desc (l : List UInt8) : Bool := word ((pieces 59 l).headD []) && ((pieces 59 l).drop 1).all (allOf wordy)

/-! ### Filters -/
inductive Flt where
  | mk (kind : Int) (kids : List Flt) (desc value start : List UInt8) (mids : List (List UInt8)) (fin rule : List UInt8) (dn : Bool)

def small (b : UInt8) : UInt8 := if 65 ≤ b.toNat ∧ b.toNat ≤ 90 then b + 32 else b
def isDn (l : List UInt8) : Bool := l.map small == [100, 110]

/-- May a part be, its kids left aside? -/
def right (k : Int) (kids : Nat) (ds vl st : List UInt8) (ms : List (List UInt8)) (fn rl : List UInt8) (dn : Bool) : Bool :=
  let pcs := !st.isEmpty || !fn.isEmpty || !ms.isEmpty
  let ruled := !rl.isEmpty || dn
  if k = 0 ∨ k = 1 ∨ k = 2 then 0 < kids && (kids == 1 || k ≠ 2) && ds.isEmpty && vl.isEmpty && !pcs && !ruled
  else if k = 9 then kids == 0 && !pcs && (!ds.isEmpty || !rl.isEmpty) && (ds.isEmpty || desc ds) && (rl.isEmpty || word rl && !isDn rl)
  else if k = 4 then ms.all (fun m => !m.isEmpty) && kids == 0 && pcs && !ruled && vl.isEmpty && desc ds
  else if k = 7 then kids == 0 && !pcs && !ruled && vl.isEmpty && desc ds
  else if k = 3 ∨ k = 5 ∨ k = 6 ∨ k = 8 then kids == 0 && !pcs && !ruled && desc ds
  else false

def long (ds vl st : List UInt8) (ms : List (List UInt8)) (fn rl : List UInt8) : Bool :=
  65536 < ds.length || 65536 < vl.length || 65536 < st.length || 65536 < fn.length || 65536 < rl.length || ms.any (fun m => 65536 < m.length)

/-- The walk: a part with so many above it, so many parts and such a depth so far: the code (0: well) and the two numbers. -/
def walk : Flt → Nat → Nat → Nat → Int × Nat × Nat
  | .mk k ks ds vl st ms fn rl dn, a, n, d =>
    if 64 ≤ a then (91, n, d) else
    if 65536 < (if k = 2 then n else n + 1) ∨ long ds vl st ms fn rl then (3, (if k = 2 then n else n + 1), max d (a + 1)) else
    if right k ks.length ds vl st ms fn rl dn then walks ks (a + 1) (if k = 2 then n else n + 1) (max d (a + 1)) else (90, (if k = 2 then n else n + 1), max d (a + 1))
where
  walks : List Flt → Nat → Nat → Nat → Int × Nat × Nat
  | [], _, n, d => (0, n, d)
  | f :: fs, a, n, d => if (walk f a n d).1 = 0 then walks fs a (walk f a n d).2.1 (walk f a n d).2.2 else walk f a n d

def check (f : Flt) : Int × Nat × Nat := if (walk f 0 0 0).1 = 0 then walk f 0 0 0 else ((walk f 0 0 0).1, 0, 0)
def may (f : Flt) : Prop := (walk f 0 0 0).1 = 0
end Go.FltLaw
