/-
  Words for slices that are read, whatever their address is: 'Rd'. No program.
 What a filter is, in plain Lean: pieces of a text, words, descriptions, the parts that may be, the bounds. No program.
 Pieces of a text, found one by one from the left. No program.
 The order of filters, in plain Lean: it is an order. No program.
-/
import Derived.Below
import Derived.Laws.OwnMore
import Derived.Deep.AppendLies
import Derived.Deep.Draws
import Derived.Maps.AppendAt
import Derived.RegionTactic
import Derived.OwnWalk
import Derived.Lib.SplitLaws
namespace Go.RankLaw
open Go.RowKit

theorem add_block (a : Addr) (n : Nat) : (a.add n).block = a.block := by unfold Addr.add; split <;> rfl
theorem add_add (a : Addr) (i j : Nat) : (a.add i).add j = a.add (i + j) := by
 unfold Addr.add
 by_cases hi : i = 0 <;> by_cases hj : j = 0 <;> simp [hi, hj, Nat.add_assoc]
def Rd (w : World) (B : Nat) (A : Option Addr) (n : Nat) (xs : List Value) : Prop :=
 xs.length = n ∧ (0 < n → ∃ ad, A = some ad ∧ ad.block < B ∧ ∀ j u, xs[j]? = some u → w.cell? (ad.add j) = some u)
section
variable {w w' : World} {B B' n : Nat} {A : Option Addr} {xs : List Value}
theorem Rd.cell {k : Nat} (h : Rd w B A n xs) (hk : k < n) : ∃ ad u, A = some ad ∧ ad.block < B ∧ xs[k]? = some u ∧ w.cell? (ad.add k) = some u := by
 obtain ⟨ad, e, hb, hc⟩ := h.2 (by omega)
 have hl : k < xs.length := by rw [h.1]; exact hk
 exact ⟨ad, xs[k], e, hb, List.getElem?_eq_getElem hl, hc k _ (List.getElem?_eq_getElem hl)⟩
theorem Rd.keep (h : Rd w B A n xs) (hk : ∀ p : Addr, p.block < B → w'.cell? p = w.cell? p) : Rd w' B A n xs :=
 ⟨h.1, fun hn => let ⟨ad, e, hb, hc⟩ := h.2 hn; ⟨ad, e, hb, fun j u hu => (hk _ (by rw [add_block]; exact hb)).trans (hc j u hu)⟩⟩
theorem Rd.more (h : Rd w B A n xs) (hB : B ≤ B') : Rd w B' A n xs := ⟨h.1, fun hn => let ⟨ad, e, hb, hc⟩ := h.2 hn; ⟨ad, e, Nat.lt_of_lt_of_le hb hB, hc⟩⟩
theorem Rd.below (h : Rd w B A n xs) (hb : Below B w w') : Rd w' B A n xs := h.keep fun _ hp => hb.cell hp
theorem Rd.alloc (h : Rd w B A n xs) (hB : B ≤ w.heap.size) (o : Obj) : Rd (w.alloc o) B A n xs := h.keep fun p hp => World.cell?_alloc_lt w o p (by omega)
theorem Rd.cut (h : Rd w B A n xs) {k cap : Nat} (hk : k ≤ n) (hc : n ≤ cap) : Rd w B (if cap = k then A else A.map (·.add k)) (n - k) (xs.drop k) := by
 refine ⟨by rw [List.length_drop, h.1], fun hn => ?_⟩
 obtain ⟨ad, rfl, hb, hcell⟩ := h.2 (by omega)
 rw [if_neg (by omega)]
 refine ⟨ad.add k, rfl, by rw [add_block]; exact hb, fun j u hu => ?_⟩
 rw [add_add]
 exact hcell _ u (by rw [← hu, List.getElem?_drop])
theorem Rd.take (h : Rd w B A n xs) {k : Nat} (hk : k ≤ n) : Rd w B A k (xs.take k) := by
 refine ⟨by rw [List.length_take, h.1]; omega, fun hn => ?_⟩
 obtain ⟨ad, e, hb, hcell⟩ := h.2 (by omega)
 refine ⟨ad, e, hb, fun j u hu => hcell j u ?_⟩
 rw [List.getElem?_take] at hu
 split at hu
 ·exact hu
 ·cases hu
end

section
variable {P : Program} (w : World)

theorem run_append_nil_src (base : Nat) (t ty e : TypeId) (i : TypeInfo) (ht : P.underlying t = some (.slice e)) (hi : P.info? e = some i)
  (v : Value) (n : Nat) (xs : List Value) (hown : w.ownsRow base e 1 v n xs) (c : Nat) : (Builtin.append_ #[t, t] ty #[v, .slice none 0 c]).run P w = .ok v w := by
 rcases hown.2 with ⟨rfl, rfl⟩ | ⟨g, cap, cur, rfl, _, _, hnc, _⟩
 ·simp [Builtin.append_, run_underlying ht, sizeOf, typeInfo, hi, Builtin.lenOf, Builtin.firstCells]
 ·simp [Builtin.append_, run_underlying ht, sizeOf, typeInfo, hi, Builtin.lenOf, Builtin.firstCells, hnc, storeCells]
theorem run_append_rd (base : Nat) (t ty e : TypeId) (i : TypeInfo) (z : Value) (bytes : Nat) (ht : P.underlying t = some (.slice e)) (hi : P.info? e = some i) (hz : i.zero = some z)
  (hsize : i.size = 1) (hby : i.bytes = bytes) (hzs : z.cells.size = 1) (v : Value) (n : Nat) (xs : List Value) (hown : w.ownsRow base e 1 v n xs)
  (B : Nat) (A : Option Addr) (m c : Nat) (news : List Value) (hr : Rd w B A m news) (h1 : ∀ u ∈ news, u.oneCell' = true)
  (h63 : n + m ≤ maxLen) (hbytes : (n + m) * bytes ≤ 140737488355328) (hbase : base ≤ w.heap.size) :
  ∃ v' w', (Builtin.append_ #[t, t] ty #[v, .slice A m c]).run P w = .ok v' w' ∧ w'.ownsRow base e 1 v' (n + m) (xs ++ news) ∧ w.grownBy w' v.ownBlock ∧
   (v'.ownBlock = v.ownBlock ∨ v'.ownBlock = some w.heap.size) := by
 rcases A with _ | ad
 ·have hm : m = 0 := by
   rcases Nat.eq_zero_or_pos m with h0 | h0
   ·exact h0
   ·obtain ⟨ad, h, _⟩ := hr.2 h0
    cases h
  subst hm
  have hn : news = [] := List.eq_nil_of_length_eq_zero hr.1
  subst hn
  exact ⟨v, w, run_append_nil_src w base t ty e i ht hi v n xs hown c, by simpa using hown, World.grownBy.refl w _, .inl rfl⟩
 ·have hcells : ∀ j u, news[j]? = some u → w.cell? (ad.add j) = some u := fun j u hu => by
   have : 0 < m := by
    have := (List.getElem?_eq_some_iff.1 hu).1
    rw [hr.1] at this; omega
   obtain ⟨ad', h, _, hc⟩ := hr.2 this
   injection h with h
   subst h
   exact hc j u hu
  obtain ⟨v', w', hrun, h2, h3, _, h5⟩ := run_append_own_at (P := P) w base t ty e i z 1 bytes ht hi hz hsize hby hzs (by decide) v n xs hown ad m c news (by rw [hr.1, Nat.mul_one]) hcells h1 h63 hbytes hbase
  exact ⟨v', w', hrun, h2, h3, h5⟩
theorem wp_append_rd {o : Oper} {a : Act} {K : Act → World → Prop} {Q : Exit → Act → World → Prop} (s x : Operand) (t : TypeId)
  (ho : o.op = .call { callee := .builtin .append, args := #[s, x], argTypes := #[t, t] })
  (base : Nat) (e : TypeId) (i : TypeInfo) (z : Value) (bytes : Nat) (ht : P.underlying t = some (.slice e)) (hi : P.info? e = some i) (hz : i.zero = some z)
  (hsize : i.size = 1) (hby : i.bytes = bytes) (hzs : z.cells.size = 1) (v : Value) (n : Nat) (xs : List Value) (hs : a.eval s = v) (hown : w.ownsRow base e 1 v n xs)
  (B : Nat) (A : Option Addr) (m c : Nat) (news : List Value) (hx : a.eval x = .slice A m c) (hr : Rd w B A m news) (h1 : ∀ u ∈ news, u.oneCell' = true)
  (h63 : n + m ≤ maxLen) (hbytes : (n + m) * bytes ≤ 140737488355328) (hbase : base ≤ w.heap.size)
  (h : ∀ v' w', w'.ownsRow base e 1 v' (n + m) (xs ++ news) → w.grownBy w' v.ownBlock → (v'.ownBlock = v.ownBlock ∨ v'.ownBlock = some w.heap.size) → K (a.put o.dst v') w') : o.wp P a w K Q := by
 obtain ⟨v', w', hrun, h2, h3, h4⟩ := run_append_rd (P := P) w base t o.type e i z bytes ht hi hz hsize hby hzs v n xs hown B A m c news hr h1 h63 hbytes hbase
 unfold Oper.wp execOp
 simp only [ho, resolve, invoke, builtin, Sem.run_bind, Sem.run_pure, Result.andThen_ok, List.map_toArray, List.map_cons, List.map_nil, hs, hx, hrun]
 exact h v' w' h2 h3 h4
theorem wpList_append_rd {ops : Array Oper} {rest : List Oper} {o : Oper} {a : Act} {Q : Exit → Act → World → Prop} (hgd : o.guard = none) (s x : Operand) (t : TypeId)
  (ho : o.op = .call { callee := .builtin .append, args := #[s, x], argTypes := #[t, t] })
  (base : Nat) (e : TypeId) (i : TypeInfo) (z : Value) (bytes : Nat) (ht : P.underlying t = some (.slice e)) (hi : P.info? e = some i) (hz : i.zero = some z)
  (hsize : i.size = 1) (hby : i.bytes = bytes) (hzs : z.cells.size = 1) (v : Value) (n : Nat) (xs : List Value) (hs : a.eval s = v) (hown : w.ownsRow base e 1 v n xs)
  (B : Nat) (A : Option Addr) (m c : Nat) (news : List Value) (hx : a.eval x = .slice A m c) (hr : Rd w B A m news) (h1 : ∀ u ∈ news, u.oneCell' = true)
  (h63 : n + m ≤ maxLen) (hbytes : (n + m) * bytes ≤ 140737488355328) (hbase : base ≤ w.heap.size)
  (h : ∀ v' w', w'.ownsRow base e 1 v' (n + m) (xs ++ news) → w.grownBy w' v.ownBlock → (v'.ownBlock = v.ownBlock ∨ v'.ownBlock = some w.heap.size) → wpList P ops Q rest (a.put o.dst v') w') : wpList P ops Q (o :: rest) a w :=
 wpList_plain hgd fun _ hK => wp_append_rd w s x t ho base e i z bytes ht hi hz hsize hby hzs v n xs hs hown B A m c news hx hr h1 h63 hbytes hbase fun v' w' h2 h3 h4 => hK _ _ (h v' w' h2 h3 h4)
end
end Go.RankLaw

namespace Go.FltLaw

def pieces (c : UInt8) : List UInt8 → List (List UInt8)
 | [] => [[]]
 | b :: l => if b = c then [] :: pieces c l else
  match pieces c l with
  | [] => [[b]]
  | p :: ps => (b :: p) :: ps
theorem pieces_ne (c : UInt8) : ∀ l, pieces c l ≠ []
 | [] => by simp [pieces]
 | b :: l => by
  unfold pieces
  split
  ·simp
  ·split <;> simp
theorem pieces_cons_ne {c b : UInt8} {l : List UInt8} (h : b ≠ c) : ∃ p ps, pieces c l = p :: ps ∧ pieces c (b :: l) = (b :: p) :: ps := by
 cases hp : pieces c l with
 | nil => exact absurd hp (pieces_ne c l)
 | cons p ps => exact ⟨p, ps, rfl, by rw [pieces, if_neg h, hp]⟩
theorem pieces_none {c : UInt8} : ∀ {l : List UInt8}, (∀ b ∈ l, b ≠ c) → pieces c l = [l]
 | [], _ => rfl
 | b :: l, h => by
  rw [pieces, if_neg (h b (by simp)), pieces_none (fun x hx => h x (by simp [hx]))]
theorem pieces_cut {c : UInt8} : ∀ {p : List UInt8} {r : List UInt8}, (∀ b ∈ p, b ≠ c) → pieces c (p ++ c :: r) = p :: pieces c r
 | [], r, _ => by rw [List.nil_append, pieces, if_pos rfl]
 | b :: p, r, h => by
  rw [List.cons_append, pieces, if_neg (h b (by simp)), pieces_cut (fun x hx => h x (by simp [hx]))]
theorem pieces_length (c : UInt8) : ∀ l, (pieces c l).length = l.count c + 1
 | [] => rfl
 | b :: l => by
  by_cases h : b = c
  ·subst h; rw [pieces, if_pos rfl, List.length_cons, pieces_length b l, List.count_cons_self]
  ·obtain ⟨p, ps, e, e'⟩ := pieces_cons_ne (l := l) h
   rw [e', List.count_cons_of_ne (by simpa using h), ← pieces_length c l, e]
   rfl
theorem index_cons (c b : UInt8) (l : List UInt8) (h : b ≠ c) : Lib.index (b :: l) [c] = if Lib.index l [c] == -1 then -1 else Lib.index l [c] + 1 := by
 have hp : ([c] : List UInt8).isPrefixOf (b :: l) = false := by simp [List.isPrefixOf, Ne.symm h]
 rw [Lib.index, hp]; simp
theorem index_self (c : UInt8) (l : List UInt8) : Lib.index (c :: l) [c] = 0 := by rw [Lib.index]; simp [List.isPrefixOf]
theorem index_some (c : UInt8) : ∀ l, c ∈ l → ∃ j : Nat, Lib.index l [c] = j ∧ j < l.length
 | [], h => by cases h
 | b :: l, h => by
  by_cases hb : b = c
  ·subst hb; exact ⟨0, index_self b l, by simp⟩
  ·have hm : c ∈ l := by
    rcases List.mem_cons.1 h with e | e
    ·exact absurd e.symm hb
    ·exact e
   obtain ⟨j, e, hj⟩ := index_some c l hm
   refine ⟨j + 1, ?_, by simpa using hj⟩
   rw [index_cons c b l hb, e, if_neg (by simp)]
   omega
theorem splitK_pieces (c : UInt8) : ∀ l : List UInt8, Lib.splitK [c] 0 (l.count c) l = pieces c l
 | [] => rfl
 | b :: l => by
  by_cases h : b = c
  ·subst h
   rw [List.count_cons_self, Lib.splitK, index_self, if_neg (by decide), pieces, if_pos rfl, ← splitK_pieces b l]
   simp
  ·rw [List.count_cons_of_ne (by simpa using h)]
   obtain ⟨p, ps, e, e'⟩ := pieces_cons_ne (l := l) h
   rw [e']
   have ih := splitK_pieces c l
   rw [e] at ih
   cases hk : l.count c with
   | zero =>
    rw [hk] at ih
    simp only [Lib.splitK, List.cons.injEq] at ih ⊢
    exact ⟨⟨trivial, ih.1⟩, ih.2⟩
   | succ k =>
    rw [hk] at ih
    obtain ⟨j, hj, _⟩ := index_some c l (List.count_pos_iff.1 (by omega))
    rw [Lib.splitK, hj, if_neg (by simp)] at ih
    rw [Lib.splitK, index_cons c b l h, hj, if_neg (by simp; omega), if_neg (by simp)]
    simp only [List.cons.injEq, Int.toNat_natCast, Nat.add_zero] at ih ⊢
    have e2 : ((j : Int) + 1).toNat = j + 1 := by omega
    rw [e2]
    refine ⟨?_, ?_⟩
    ·rw [List.take_succ_cons, ih.1]
    ·rw [← ih.2]
     simp [Nat.add_assoc]
theorem split_pieces (c : UInt8) (l : List UInt8) : (Lib.splitB ⟨#[c]⟩ 0 (Lib.countB ⟨l.toArray⟩ ⟨#[c]⟩) ⟨l.toArray⟩).map (·.data.toList) = pieces c l := by
 rw [Lib.splitB_data]
 show Lib.splitK [c] 0 (Lib.count l [c]) l = _
 rw [Lib.count_one, splitK_pieces]
def letter (b : UInt8) : Bool := (97 ≤ b.toNat && b.toNat ≤ 122) || (65 ≤ b.toNat && b.toNat ≤ 90)
def digit (b : UInt8) : Bool := 48 ≤ b.toNat && b.toNat ≤ 57
def wordy (b : UInt8) : Bool := letter b || digit b || b == 45
def allOf (p : UInt8 → Bool) (l : List UInt8) : Bool := l.all p && !l.isEmpty
def row (l : List UInt8) : Bool := allOf digit l && !(l.headD 0 == 48 && 1 < l.length)
def word (l : List UInt8) : Bool :=
 if !l.isEmpty && letter (l.headD 0) then allOf wordy l else (pieces 46 l).all row && 1 < (pieces 46 l).length
def desc (l : List UInt8) : Bool := word ((pieces 59 l).headD []) && ((pieces 59 l).drop 1).all (allOf wordy)
inductive Flt where
 | mk (kind : Int) (kids : List Flt) (desc value start : List UInt8) (mids : List (List UInt8)) (fin rule : List UInt8) (dn : Bool)
def small (b : UInt8) : UInt8 := if 65 ≤ b.toNat ∧ b.toNat ≤ 90 then b + 32 else b
def isDn (l : List UInt8) : Bool := l.map small == [100, 110]
def right (k : Int) (kids : Nat) (ds vl st : List UInt8) (ms : List (List UInt8)) (fn rl : List UInt8) (dn : Bool) : Bool :=
 let pcs := !st.isEmpty || !fn.isEmpty || !ms.isEmpty
 let ruled := !rl.isEmpty || dn
 if k = 0 ∨ k = 1 ∨ k = 2 then 0 < kids && (kids == 1 || k ≠ 2) && ds.isEmpty && vl.isEmpty && !pcs && !ruled
 else if k = 9 then kids == 0 && !pcs && (!ds.isEmpty || !rl.isEmpty) && (ds.isEmpty || desc ds) && (rl.isEmpty || word rl && !isDn rl)
 else if k = 4 then ms.all (fun m => !m.isEmpty) && kids == 0 && pcs && !ruled && vl.isEmpty && desc ds
 else if k = 7 then kids == 0 && !pcs && !ruled && vl.isEmpty && desc ds
 else if k = 3 ∨ k = 5 ∨ k = 6 ∨ k = 8 then kids == 0 && !pcs && !ruled && desc ds
 else false
def long (ds vl st : List UInt8) (ms : List (List UInt8)) (fn rl : List UInt8) : Bool :=
 65536 < ds.length || 65536 < vl.length || 65536 < st.length || 65536 < fn.length || 65536 < rl.length || ms.any (fun m => 65536 < m.length)
def walk : Flt → Nat → Nat → Nat → Int × Nat × Nat
 | .mk k ks ds vl st ms fn rl dn, a, n, d =>
  if 64 ≤ a then (91, n, d) else
  if 65536 < (if k = 2 then n else n + 1) ∨ long ds vl st ms fn rl then (3, (if k = 2 then n else n + 1), max d (a + 1)) else
  if right k ks.length ds vl st ms fn rl dn then walks ks (a + 1) (if k = 2 then n else n + 1) (max d (a + 1)) else (90, (if k = 2 then n else n + 1), max d (a + 1))
where
 walks : List Flt → Nat → Nat → Nat → Int × Nat × Nat
 | [], _, n, d => (0, n, d)
 | f :: fs, a, n, d => if (walk f a n d).1 = 0 then walks fs a (walk f a n d).2.1 (walk f a n d).2.2 else walk f a n d

def check (f : Flt) : Int × Nat × Nat := if (walk f 0 0 0).1 = 0 then walk f 0 0 0 else ((walk f 0 0 0).1, 0, 0)
def may (f : Flt) : Prop := (walk f 0 0 0).1 = 0
end Go.FltLaw

namespace Go.FltLaw

def Free (c : UInt8) (l : List UInt8) (a i : Nat) : Prop := ∀ j, a ≤ j → j < i → l[j]? ≠ some c
theorem Free.next {c : UInt8} {l : List UInt8} {a i : Nat} (h : Free c l a i) (hi : l[i]? ≠ some c) : Free c l a (i + 1) := fun j h1 h2 => by
 by_cases e : j = i
 ·subst e; exact hi
 ·exact h j h1 (by omega)
theorem Free.start (c : UInt8) (l : List UInt8) (a : Nat) : Free c l a a := fun j h1 h2 => by omega
theorem Free.mem {c : UInt8} {l : List UInt8} {a i : Nat} (h : Free c l a i) : ∀ b ∈ (l.drop a).take (i - a), b ≠ c := by
 intro b hb e
 obtain ⟨j, hj, e2⟩ := List.getElem_of_mem hb
 simp only [List.length_take, List.length_drop] at hj
 have h2 := h (a + j) (by omega) (by omega)
 rw [List.getElem_take, List.getElem_drop] at e2
 exact h2 (by rw [List.getElem?_eq_getElem (by omega), e2, e])
theorem piece_at {c : UInt8} {l : List UInt8} {a i : Nat} (h : Free c l a i) (ha : a ≤ i) (hi : l[i]? = some c) : pieces c (l.drop a) = (l.drop a).take (i - a) :: pieces c (l.drop (i + 1)) := by
 have hlt : i < l.length := (List.getElem?_eq_some_iff.1 hi).1
 have e : l.drop a = (l.drop a).take (i - a) ++ c :: l.drop (i + 1) := by
  have h1 : (l.drop a).drop (i - a) = c :: l.drop (i + 1) := by
   rw [List.drop_drop, show a + (i - a) = i by omega, List.drop_eq_getElem_cons hlt]
   congr 1
   exact (List.getElem?_eq_some_iff.1 hi).2
  rw [← h1, List.take_append_drop]
 conv => lhs; rw [e]
 exact pieces_cut h.mem
theorem piece_end {c : UInt8} {l : List UInt8} {a : Nat} (h : Free c l a l.length) : pieces c (l.drop a) = [(l.drop a).take (l.length - a)] := by
 rw [List.take_of_length_le (by simp)]
 refine pieces_none fun b hb => ?_
 have := h.mem b
 rw [List.take_of_length_le (by simp)] at this
 exact this hb
def RowsAt (l : List UInt8) (a m : Nat) : Prop := (pieces 46 l).all row = (pieces 46 (l.drop a)).all row ∧ (pieces 46 l).length = m + (pieces 46 (l.drop a)).length
theorem RowsAt.start (l : List UInt8) : RowsAt l 0 0 := ⟨by simp, by simp⟩
theorem RowsAt.bad {l : List UInt8} {a m i : Nat} (h : RowsAt l a m) (hf : Free 46 l a i) (ha : a ≤ i) (hi : l[i]? = some 46 ∨ i = l.length) (hr : row ((l.drop a).take (i - a)) = false) : (pieces 46 l).all row = false := by
 rw [h.1]
 rcases hi with hi | rfl
 ·rw [piece_at hf ha hi, List.all_cons, hr, Bool.false_and]
 ·rw [piece_end hf, List.all_cons, hr, Bool.false_and]
theorem RowsAt.next {l : List UInt8} {a m i : Nat} (h : RowsAt l a m) (hf : Free 46 l a i) (ha : a ≤ i) (hi : l[i]? = some 46) (hr : row ((l.drop a).take (i - a)) = true) : RowsAt l (i + 1) (m + 1) := by
 refine ⟨?_, ?_⟩
 ·rw [h.1, piece_at hf ha hi, List.all_cons, hr, Bool.true_and]
 ·rw [h.2, piece_at hf ha hi, List.length_cons]; omega
theorem RowsAt.last {l : List UInt8} {a m : Nat} (h : RowsAt l a m) (hf : Free 46 l a l.length) (hr : row ((l.drop a).take (l.length - a)) = true) : (pieces 46 l).all row = true ∧ (pieces 46 l).length = m + 1 := by
 refine ⟨?_, ?_⟩
 ·rw [h.1, piece_end hf, List.all_cons, hr, Bool.true_and]; rfl
 ·rw [h.2, piece_end hf]; rfl
def DescAt (l : List UInt8) (a : Nat) : Prop := if a = 0 then True else desc l = (pieces 59 (l.drop a)).all (allOf wordy)
def okPiece (a : Nat) (p : List UInt8) : Bool := if a = 0 then word p else allOf wordy p
theorem DescAt.cut {l : List UInt8} {a : Nat} {p : List UInt8} {ps : List (List UInt8)} (h : DescAt l a) (hp : pieces 59 (l.drop a) = p :: ps) : desc l = (okPiece a p && ps.all (allOf wordy)) := by
 unfold DescAt at h
 unfold okPiece
 by_cases h0 : a = 0
 ·subst h0
  rw [List.drop_zero] at hp
  simp [desc, hp]
 ·rw [if_neg h0] at h ⊢
  rw [h, hp, List.all_cons]
theorem DescAt.bad {l : List UInt8} {a i : Nat} (h : DescAt l a) (hf : Free 59 l a i) (ha : a ≤ i) (hi : l[i]? = some 59 ∨ i = l.length) (hr : okPiece a ((l.drop a).take (i - a)) = false) : desc l = false := by
 rcases hi with hi | rfl
 ·rw [h.cut (piece_at hf ha hi), hr, Bool.false_and]
 ·rw [h.cut (piece_end hf), hr, Bool.false_and]
theorem DescAt.next {l : List UInt8} {a i : Nat} (h : DescAt l a) (hf : Free 59 l a i) (ha : a ≤ i) (hi : l[i]? = some 59) (hr : okPiece a ((l.drop a).take (i - a)) = true) : DescAt l (i + 1) := by
 unfold DescAt
 rw [if_neg (by omega), h.cut (piece_at hf ha hi), hr, Bool.true_and]
theorem DescAt.last {l : List UInt8} {a : Nat} (h : DescAt l a) (hf : Free 59 l a l.length) (hr : okPiece a ((l.drop a).take (l.length - a)) = true) : desc l = true := by
 rw [h.cut (piece_end hf), hr]; rfl
end Go.FltLaw

namespace Go.FltLaw

def Tri (a b c : Ordering) : Prop := a ≠ .gt → b ≠ .gt → c ≠ .gt ∧ ((a = .lt ∨ b = .lt) → c = .lt) ∧ (a = .eq → b = .eq → c = .eq)
theorem Tri.then' {a b c x y z : Ordering} (h : Tri a b c) (h' : a = .eq → b = .eq → Tri x y z) : Tri (a.then x) (b.then y) (c.then z) := by
 intro ha hb
 cases a with
 | gt => exact absurd rfl ha
 | lt =>
  cases b with
  | gt => exact absurd rfl hb
  | lt => have := (h (by simp) (by simp)).2.1 (.inl rfl); subst this; simp [Ordering.then]
  | eq => have := (h (by simp) (by simp)).2.1 (.inl rfl); subst this; simp [Ordering.then]
 | eq =>
  cases b with
  | gt => exact absurd rfl hb
  | lt => have := (h (by simp) (by simp)).2.1 (.inr rfl); subst this; simp [Ordering.then]
  | eq =>
   have := (h (by simp) (by simp)).2.2 rfl rfl
   subst this
   exact h' rfl rfl ha hb
theorem Tri.eqs : Tri .eq .eq .eq := fun _ _ => ⟨by simp, by simp, by simp⟩
theorem nat_swap (a b : Nat) : compare b a = (compare a b).swap := by
 simp only [Nat.compare_eq_ite_lt]
 repeat' split
 all_goals first | rfl | (exfalso; omega)
theorem int_swap (a b : Int) : compare b a = (compare a b).swap := by
 simp only [compare, compareOfLessAndEq]
 repeat' split
 all_goals first | rfl | (exfalso; omega)
theorem nat_tri (a b c : Nat) : Tri (compare a b) (compare b c) (compare a c) := by
 unfold Tri
 simp only [Nat.compare_eq_ite_lt]
 repeat' split
 all_goals first | (exfalso; omega) | (simp; done) | (intro h1 h2; simp at h1 h2; done)
theorem int_tri (a b c : Int) : Tri (compare a b) (compare b c) (compare a c) := by
 unfold Tri
 simp only [compare, compareOfLessAndEq]
 repeat' split
 all_goals first | (exfalso; omega) | (simp; done) | (intro h1 h2; simp at h1 h2; done)
def lex {α : Type} (c : α → α → Ordering) : List α → List α → Ordering
 | [], [] => .eq
 | [], _ :: _ => .lt
 | _ :: _, [] => .gt
 | a :: l, b :: m => (c a b).then (lex c l m)
section
variable {α : Type} {c : α → α → Ordering}
theorem lex_swap (h : ∀ a b, c b a = (c a b).swap) : ∀ l m, lex c m l = (lex c l m).swap
 | [], [] => rfl
 | [], _ :: _ => rfl
 | _ :: _, [] => rfl
 | a :: l, b :: m => by
  unfold lex
  rw [h a b, lex_swap h l m]
  cases c a b <;> rfl
theorem lex_self (h : ∀ a, c a a = .eq) : ∀ l, lex c l l = .eq
 | [] => rfl
 | a :: l => by
  unfold lex
  rw [h a, lex_self h l]
  rfl
theorem lex_tri (h : ∀ a b d, Tri (c a b) (c b d) (c a d)) : ∀ l m n, Tri (lex c l m) (lex c m n) (lex c l n)
 | [], [], [] => Tri.eqs
 | [], [], _ :: _ => fun _ _ => ⟨by simp [lex], by simp [lex], by simp [lex]⟩
 | [], _ :: _, [] => fun _ h => by simp [lex] at h
 | [], _ :: _, _ :: _ => fun _ _ => ⟨by simp [lex], by simp [lex], by simp [lex]⟩
 | _ :: _, [], _ => fun h => by simp [lex] at h
 | _ :: _, _ :: _, [] => fun _ h => by simp [lex] at h
 | a :: l, b :: m, d :: n => by
  unfold lex
  exact (h a b d).then' fun _ _ => lex_tri h l m n
end

def byteCmp (a b : UInt8) : Ordering := compare a.toNat b.toNat
def txtCmp : List UInt8 → List UInt8 → Ordering := lex byteCmp
def boolCmp (a b : Bool) : Ordering := compare a.toNat b.toNat
mutual
def cmp : Flt → Flt → Ordering
 | .mk k ks ds vl st ms fn rl dn, .mk k' ks' ds' vl' st' ms' fn' rl' dn' =>
  (compare k k').then ((txtCmp ds ds').then ((txtCmp vl vl').then ((txtCmp st st').then ((lex txtCmp ms ms').then ((txtCmp fn fn').then ((txtCmp rl rl').then ((boolCmp dn dn').then (cmps ks ks'))))))))
def cmps : List Flt → List Flt → Ordering
 | [], [] => .eq
 | [], _ :: _ => .lt
 | _ :: _, [] => .gt
 | f :: fs, g :: gs => (cmp f g).then (cmps fs gs)
end

theorem then_swap (a b : Ordering) : (a.then b).swap = a.swap.then b.swap := by cases a <;> rfl
theorem txt_swap (a b : List UInt8) : txtCmp b a = (txtCmp a b).swap := lex_swap (fun _ _ => nat_swap _ _) a b
theorem txt_self (a : List UInt8) : txtCmp a a = .eq := lex_self (fun x => by simp [byteCmp]) a
theorem txt_tri (a b d : List UInt8) : Tri (txtCmp a b) (txtCmp b d) (txtCmp a d) := lex_tri (c := byteCmp) (fun x y z => nat_tri x.toNat y.toNat z.toNat) a b d
mutual
theorem cmp_swap : ∀ f g : Flt, cmp g f = (cmp f g).swap
 | .mk k ks ds vl st ms fn rl dn, .mk k' ks' ds' vl' st' ms' fn' rl' dn' => by
  unfold cmp
  rw [int_swap k k', txt_swap ds ds', txt_swap vl vl', txt_swap st st', lex_swap txt_swap ms ms', txt_swap fn fn', txt_swap rl rl', cmps_swap ks ks', show boolCmp dn' dn = (boolCmp dn dn').swap from nat_swap _ _]
  simp only [then_swap]
theorem cmps_swap : ∀ f g : List Flt, cmps g f = (cmps f g).swap
 | [], [] => by simp [cmps]
 | [], _ :: _ => by simp [cmps]
 | _ :: _, [] => by simp [cmps]
 | f :: fs, g :: gs => by
  unfold cmps
  rw [cmp_swap f g, cmps_swap fs gs, then_swap]
end
mutual
theorem cmp_self : ∀ f : Flt, cmp f f = .eq
 | .mk k ks ds vl st ms fn rl dn => by
  unfold cmp
  rw [txt_self, txt_self, txt_self, lex_self txt_self, txt_self, txt_self, cmps_self ks, show compare k k = .eq by simp, show boolCmp dn dn = .eq by simp [boolCmp]]
  rfl
theorem cmps_self : ∀ f : List Flt, cmps f f = .eq
 | [] => by simp [cmps]
 | f :: fs => by
  unfold cmps
  rw [cmp_self f, cmps_self fs]
  rfl
end
mutual
theorem cmp_tri : ∀ f g h : Flt, Tri (cmp f g) (cmp g h) (cmp f h)
 | .mk k ks ds vl st ms fn rl dn, .mk k' ks' ds' vl' st' ms' fn' rl' dn', .mk k2 ks2 ds2 vl2 st2 ms2 fn2 rl2 dn2 => by
  unfold cmp
  exact (int_tri k k' k2).then' fun _ _ => (txt_tri ds ds' ds2).then' fun _ _ => (txt_tri vl vl' vl2).then' fun _ _ => (txt_tri st st' st2).then' fun _ _ => (lex_tri txt_tri ms ms' ms2).then' fun _ _ =>
   (txt_tri fn fn' fn2).then' fun _ _ => (txt_tri rl rl' rl2).then' fun _ _ => (nat_tri dn.toNat dn'.toNat dn2.toNat).then' fun _ _ => cmps_tri ks ks' ks2
theorem cmps_tri : ∀ f g h : List Flt, Tri (cmps f g) (cmps g h) (cmps f h)
 | [], [], [] => by simpa [cmps] using Tri.eqs
 | [], [], _ :: _ => fun _ _ => ⟨by simp [cmps], by simp [cmps], by simp [cmps]⟩
 | [], _ :: _, [] => fun _ h => by simp [cmps] at h
 | [], _ :: _, _ :: _ => fun _ _ => ⟨by simp [cmps], by simp [cmps], by simp [cmps]⟩
 | _ :: _, [], _ => fun h => by simp [cmps] at h
 | _ :: _, _ :: _, [] => fun _ h => by simp [cmps] at h
 | f :: fs, g :: gs, h :: hs => by
  unfold cmps
  exact (cmp_tri f g h).then' fun _ _ => cmps_tri fs gs hs
end

def num : Ordering → Int
 | .lt => -1
 | .eq => 0
 | .gt => 1
instance (f : Flt) : Decidable (may f) := inferInstanceAs (Decidable (_ = _))
def order (f g : Flt) : Ordering := if may f then (if may g then cmp f g else .lt) else if may g then .gt else .eq
theorem walk_eq (k : Int) (ks : List Flt) (ds vl st : List UInt8) (ms : List (List UInt8)) (fn rl : List UInt8) (dn : Bool) (a n d : Nat) : walk (.mk k ks ds vl st ms fn rl dn) a n d =
  if 64 ≤ a then (91, n, d) else
  if 65536 < (if k = 2 then n else n + 1) ∨ long ds vl st ms fn rl then (3, (if k = 2 then n else n + 1), max d (a + 1)) else
  if right k ks.length ds vl st ms fn rl dn then walk.walks ks (a + 1) (if k = 2 then n else n + 1) (max d (a + 1)) else (90, (if k = 2 then n else n + 1), max d (a + 1)) := by
 rw [walk]
theorem walk_ok {k : Int} {ks : List Flt} {ds vl st : List UInt8} {ms : List (List UInt8)} {fn rl : List UInt8} {dn : Bool} {a n d : Nat} (h : (walk (.mk k ks ds vl st ms fn rl dn) a n d).1 = 0) :
  a < 64 ∧ (if k = 2 then n else n + 1) ≤ 65536 ∧ long ds vl st ms fn rl = false ∧ right k ks.length ds vl st ms fn rl dn = true ∧ (walk.walks ks (a + 1) (if k = 2 then n else n + 1) (max d (a + 1))).1 = 0 ∧
   walk (.mk k ks ds vl st ms fn rl dn) a n d = walk.walks ks (a + 1) (if k = 2 then n else n + 1) (max d (a + 1)) := by
 rw [walk_eq] at h ⊢
 by_cases h1 : 64 ≤ a
 ·rw [if_pos h1] at h; simp at h
 rw [if_neg h1] at h ⊢
 by_cases h2 : 65536 < (if k = 2 then n else n + 1) ∨ long ds vl st ms fn rl
 ·rw [if_pos h2] at h; simp at h
 rw [if_neg h2] at h ⊢
 by_cases h3 : right k ks.length ds vl st ms fn rl dn
 ·rw [if_pos h3] at h ⊢
  refine ⟨by omega, ?_, ?_, h3, h, rfl⟩
  ·exact Nat.le_of_not_lt fun h => h2 (.inl h)
  ·simpa using fun h => h2 (.inr h)
 ·rw [if_neg h3] at h; simp at h
theorem right_not {kids : Nat} {ds vl st : List UInt8} {ms : List (List UInt8)} {fn rl : List UInt8} {dn : Bool} (h : right 2 kids ds vl st ms fn rl dn = true) : kids = 1 := by
 simp [right] at h
 exact h.1.1.1.1.2
mutual
theorem walk_more : ∀ (f : Flt) (a n d : Nat), (walk f a n d).1 = 0 → n + 1 ≤ (walk f a n d).2.1 ∧ (walk f a n d).2.1 ≤ 65536
 | .mk k ks ds vl st ms fn rl dn, a, n, d, h => by
  obtain ⟨h1, h2, h3, h4, h5, h6⟩ := walk_ok h
  rw [h6]
  obtain ⟨g1, g2⟩ := walks_more ks _ _ _ h2 h5
  refine ⟨?_, g2⟩
  by_cases hk : k = 2
  ·subst hk
   have := right_not h4
   simp only [if_true] at g1 ⊢
   omega
  ·simp only [if_neg hk] at g1 ⊢
   omega
theorem walks_more : ∀ (fs : List Flt) (a n d : Nat), n ≤ 65536 → (walk.walks fs a n d).1 = 0 → n + fs.length ≤ (walk.walks fs a n d).2.1 ∧ (walk.walks fs a n d).2.1 ≤ 65536
 | [], a, n, d, hn, _ => by simpa [walk.walks] using hn
 | f :: fs, a, n, d, hn, h => by
  rw [walk.walks] at h ⊢
  by_cases h0 : (walk f a n d).1 = 0
  ·rw [if_pos h0] at h ⊢
   obtain ⟨g1, g2⟩ := walk_more f a n d h0
   obtain ⟨g3, g4⟩ := walks_more fs a _ _ g2 h
   simp only [List.length_cons]
   omega
  ·rw [if_neg h0] at h
   exact absurd h h0
end

mutual
theorem walk_d64 : ∀ (f : Flt) (a n d : Nat), d ≤ 64 → (walk f a n d).2.2 ≤ 64
 | .mk k ks ds vl st ms fn rl dn, a, n, d, hd => by
  rw [walk_eq]
  by_cases h1 : 64 ≤ a
  ·rw [if_pos h1]; exact hd
  rw [if_neg h1]
  by_cases h2 : 65536 < (if k = 2 then n else n + 1) ∨ long ds vl st ms fn rl
  ·rw [if_pos h2]; simp only; omega
  rw [if_neg h2]
  by_cases h3 : right k ks.length ds vl st ms fn rl dn
  ·rw [if_pos h3]; exact walks_d64 ks _ _ _ (by omega)
  ·rw [if_neg h3]; simp only; omega
theorem walks_d64 : ∀ (fs : List Flt) (a n d : Nat), d ≤ 64 → (walk.walks fs a n d).2.2 ≤ 64
 | [], _, _, _, hd => by simpa [walk.walks] using hd
 | f :: fs, a, n, d, hd => by
  rw [walk.walks]
  by_cases h0 : (walk f a n d).1 = 0
  ·rw [if_pos h0]; exact walks_d64 fs a _ _ (walk_d64 f a n d hd)
  ·rw [if_neg h0]; exact walk_d64 f a n d hd
end
theorem walks_drop {ks : List Flt} {j : Nat} {f : Flt} (h : ks[j]? = some f) (a n d : Nat) : walk.walks (ks.drop j) a n d = if (walk f a n d).1 = 0 then walk.walks (ks.drop (j + 1)) a (walk f a n d).2.1 (walk f a n d).2.2 else walk f a n d := by
 have hlt := (List.getElem?_eq_some_iff.1 h).1
 have he := (List.getElem?_eq_some_iff.1 h).2
 rw [List.drop_eq_getElem_cons hlt, walk.walks, he]
def Sub (a : Nat) (f : Flt) : Prop := ∃ n d, (walk f a n d).1 = 0
theorem walks_sub : ∀ (fs : List Flt) (a n d : Nat), (walk.walks fs a n d).1 = 0 → ∀ f ∈ fs, Sub a f
 | [], _, _, _, _, _, hf => by cases hf
 | g :: fs, a, n, d, h, f, hf => by
  rw [walk.walks] at h
  by_cases h0 : (walk g a n d).1 = 0
  ·rw [if_pos h0] at h
   rcases List.mem_cons.1 hf with rfl | hf
   ·exact ⟨n, d, h0⟩
   ·exact walks_sub fs a _ _ h f hf
  ·rw [if_neg h0] at h
   exact absurd h h0
theorem Sub.kids {a : Nat} {k : Int} {ks : List Flt} {ds vl st : List UInt8} {ms : List (List UInt8)} {fn rl : List UInt8} {dn : Bool} (h : Sub a (.mk k ks ds vl st ms fn rl dn)) :
  a < 64 ∧ ks.length ≤ 65536 ∧ long ds vl st ms fn rl = false ∧ right k ks.length ds vl st ms fn rl dn = true ∧ ∀ f ∈ ks, Sub (a + 1) f := by
 obtain ⟨n, d, h⟩ := h
 obtain ⟨h1, h2, h3, h4, h5, _⟩ := walk_ok h
 obtain ⟨g1, g2⟩ := walks_more ks _ _ _ h2 h5
 exact ⟨h1, by omega, h3, h4, walks_sub ks _ _ _ h5⟩
theorem may_sub {f : Flt} (h : may f) : Sub 0 f := ⟨0, 0, h⟩
end Go.FltLaw
