/-
  Filters sorted by halves, each once. Plain Lean, no program.
  A slice of filters whose lists lie in some set of blocks. No program.
  A region that draws its order and only reads, operation by operation, the list held by a name: operations that a guard leaves out cost nothing. No program.
  A comparison as the first of a list of answers that is not alike. Plain Lean, no program.
  rosterref09.number, rosterref09.sign: what they compute.
-/
import Derived.Test.YtdkfmckbeagenaaGreatDoorQA2
import Derived.Lib.QuietBelow
import Derived.Test.YtdkfmckbeagenaaGreatDoorQA3
import Derived.Laws.Strings
import Derived.Test.YtdkfmckbeagenaaGreatDoorFltC1
import Derived.Laws.Cover1
set_option linter.unusedVariables false
set_option linter.unusedSimpArgs false
namespace Go.FltLaw

def Weak (l : List Flt) : Prop := l.Pairwise fun a b => cmp a b ≠ .gt
def mrg : List Flt → List Flt → List Flt
 | [], b => b
 | a, [] => a
 | x :: a, y :: b => if cmp x y ≠ .gt then x :: mrg a (y :: b) else y :: mrg (x :: a) b
termination_by a b => a.length + b.length
theorem mrg_nil (a : List Flt) : mrg a [] = a := by cases a <;> simp [mrg]
theorem nil_mrg (b : List Flt) : mrg [] b = b := by simp [mrg]
theorem mrg_len : ∀ (n : Nat) (a b : List Flt), a.length + b.length ≤ n → (mrg a b).length = a.length + b.length
 | _, [], b, _ => by simp [mrg]
 | _, x :: a, [], _ => by simp [mrg]
 | 0, x :: a, y :: b, h => by simp at h
 | n + 1, x :: a, y :: b, h => by
  unfold mrg
  simp at h
  split
  ·rw [List.length_cons, mrg_len n a (y :: b) (by simp; omega)]; simp; omega
  ·rw [List.length_cons, mrg_len n (x :: a) b (by simp; omega)]; simp; omega
theorem mrg_mem : ∀ (n : Nat) (a b : List Flt), a.length + b.length ≤ n → ∀ z, z ∈ mrg a b ↔ z ∈ a ∨ z ∈ b
 | _, [], b, _, z => by simp [mrg]
 | _, x :: a, [], _, z => by simp [mrg]
 | 0, x :: a, y :: b, h, z => by simp at h
 | n + 1, x :: a, y :: b, h, z => by
  unfold mrg
  simp at h
  split
  ·rw [List.mem_cons, mrg_mem n a (y :: b) (by simp; omega) z]
   simp only [List.mem_cons, or_assoc]
  ·rw [List.mem_cons, mrg_mem n (x :: a) b (by simp; omega) z]
   simp only [List.mem_cons]
   constructor
   ·rintro (h | (h | h) | h) <;> simp [h]
   ·rintro ((h | h) | h | h) <;> simp [h]
theorem weak_trans {a b c : Flt} (h1 : cmp a b ≠ .gt) (h2 : cmp b c ≠ .gt) : cmp a c ≠ .gt := (cmp_tri a b c h1 h2).1
theorem mrg_weak : ∀ (n : Nat) (a b : List Flt), a.length + b.length ≤ n → Weak a → Weak b → Weak (mrg a b)
 | _, [], b, _, _, hb => by rw [nil_mrg]; exact hb
 | _, x :: a, [], _, ha, _ => by rw [mrg_nil]; exact ha
 | 0, x :: a, y :: b, h, _, _ => by simp at h
 | n + 1, x :: a, y :: b, h, ha, hb => by
  obtain ⟨a1, a2⟩ := List.pairwise_cons.1 ha
  obtain ⟨b1, b2⟩ := List.pairwise_cons.1 hb
  unfold mrg
  simp at h
  split
  ·rename_i hc
   refine List.pairwise_cons.2 ⟨fun z hz => ?_, mrg_weak n a (y :: b) (by simp; omega) a2 hb⟩
   rcases (mrg_mem n a (y :: b) (by simp; omega) z).1 hz with hz | hz
   ·exact a1 z hz
   ·rcases List.mem_cons.1 hz with rfl | hz
    ·exact hc
    ·exact weak_trans hc (b1 z hz)
  ·rename_i hc
   have hyx : cmp y x ≠ .gt := by
    have : cmp x y = .gt := by simpa using hc
    rw [cmp_gt this]; simp
   refine List.pairwise_cons.2 ⟨fun z hz => ?_, mrg_weak n (x :: a) b (by simp; omega) ha b2⟩
   rcases (mrg_mem n (x :: a) b (by simp; omega) z).1 hz with hz | hz
   ·rcases List.mem_cons.1 hz with rfl | hz
    ·exact hyx
    ·exact weak_trans hyx (a1 z hz)
   ·exact b1 z hz
def msort : Nat → List Flt → List Flt
 | 0, l => l
 | n + 1, l => if l.length < 2 then l else mrg (msort n (l.take (l.length / 2))) (msort n (l.drop (l.length / 2)))
theorem msort_len : ∀ (n : Nat) (l : List Flt), (msort n l).length = l.length
 | 0, l => rfl
 | n + 1, l => by
  unfold msort
  split
  ·rfl
  ·rw [mrg_len _ _ _ (Nat.le_refl _), msort_len n, msort_len n]; simp; omega
theorem msort_mem : ∀ (n : Nat) (l : List Flt) (z : Flt), z ∈ msort n l ↔ z ∈ l
 | 0, l, z => Iff.rfl
 | n + 1, l, z => by
  unfold msort
  split
  ·exact Iff.rfl
  ·rw [mrg_mem _ _ _ (Nat.le_refl _), msort_mem n, msort_mem n, ← List.mem_append, List.take_append_drop]
theorem msort_weak : ∀ (n : Nat) (l : List Flt), l.length ≤ n + 1 → Weak (msort n l)
 | 0, l, h => by
  match l, h with
  | [], _ => exact List.Pairwise.nil
  | [x], _ => exact List.pairwise_singleton _ _
 | n + 1, l, h => by
  unfold msort
  split
  ·rename_i h2
   match l, h2 with
   | [], _ => exact List.Pairwise.nil
   | [x], _ => exact List.pairwise_singleton _ _
  ·exact mrg_weak _ _ _ (Nat.le_refl _) (msort_weak n _ (by simp; omega)) (msort_weak n _ (by simp; omega))
def onceF : List Flt → List Flt
 | [] => []
 | [x] => [x]
 | x :: y :: l => if cmp x y = .eq then onceF (y :: l) else x :: onceF (y :: l)
theorem onceF_mem : ∀ (l : List Flt) (z : Flt), z ∈ onceF l ↔ z ∈ l
 | [], z => Iff.rfl
 | [x], z => Iff.rfl
 | x :: y :: l, z => by
  unfold onceF
  split
  ·rename_i h
   rw [onceF_mem (y :: l) z, cmp_eq x y h]
   simp
  ·rw [List.mem_cons, onceF_mem (y :: l) z, List.mem_cons (a := z) (b := x)]
theorem onceF_rising : ∀ (l : List Flt), Weak l → Rising (onceF l)
 | [], _ => List.Pairwise.nil
 | [x], _ => List.pairwise_singleton _ _
 | x :: y :: l, h => by
  obtain ⟨h1, h2⟩ := List.pairwise_cons.1 h
  unfold onceF
  split
  ·exact onceF_rising (y :: l) h2
  ·rename_i hc
   refine List.pairwise_cons.2 ⟨fun z hz => ?_, onceF_rising (y :: l) h2⟩
   have hz := (onceF_mem (y :: l) z).1 hz
   have hxy : cmp x y = .lt := by
    have := h1 y (by simp)
    cases e : cmp x y
    ·rfl
    ·exact absurd e hc
    ·exact absurd e this
   rcases List.mem_cons.1 hz with rfl | hz
   ·exact hxy
   ·exact (cmp_tri x y z (by rw [hxy]; simp) ((List.pairwise_cons.1 h2).1 z hz)).2.1 (.inl hxy)
theorem onceF_canon (n : Nat) (l : List Flt) (h : l.length ≤ n + 1) : onceF (msort n l) = canon l :=
 canon_of (onceF_rising _ (msort_weak n l h)) fun x => (onceF_mem _ x).trans (msort_mem n l x)
end Go.FltLaw

namespace Go.FltLaw
open Go.RowKit Go.RankLaw

def LAtS (S : Nat → Prop) (w : World) (n : Nat) (l : List Flt) (A : Option Addr) (c : Nat) : Prop :=
 l.length ≤ c ∧ c ≤ maxLen ∧ (0 < l.length → ∃ ad, A = some ad ∧ S ad.block ∧ ∀ i f, l[i]? = some f → ∃ v, FAtS S w n f v ∧ ∀ j u, v.cells[j]? = some u → w.cell? (ad.add (i * 9 + j)) = some u)
section
variable {S T : Nat → Prop} {w w' : World} {n : Nat} {l : List Flt} {A : Option Addr} {c : Nat}
theorem LAtS.keep (h : LAtS S w n l A c) (hk : ∀ p : Addr, S p.block → w'.cell? p = w.cell? p) : LAtS S w' n l A c :=
 ⟨h.1, h.2.1, fun h0 => by
  obtain ⟨ad, e, h1, h2⟩ := h.2.2 h0
  refine ⟨ad, e, h1, fun i f hi => ?_⟩
  obtain ⟨v, hv, hc⟩ := h2 i f hi
  exact ⟨v, hv.keep hk, fun j u hu => (hk _ (by rw [RankLaw.add_block]; exact h1)).trans (hc j u hu)⟩⟩
theorem LAtS.mono (h : LAtS S w n l A c) (hm : ∀ b, S b → T b) : LAtS T w n l A c :=
 ⟨h.1, h.2.1, fun h0 => by
  obtain ⟨ad, e, h1, h2⟩ := h.2.2 h0
  refine ⟨ad, e, hm _ h1, fun i f hi => ?_⟩
  obtain ⟨v, hv, hc⟩ := h2 i f hi
  exact ⟨v, hv.mono hm, hc⟩⟩
theorem LAtS.up {m : Nat} (h : LAtS S w n l A c) (hm : n ≤ m) : LAtS S w m l A c :=
 ⟨h.1, h.2.1, fun h0 => by
  obtain ⟨ad, e, h1, h2⟩ := h.2.2 h0
  refine ⟨ad, e, h1, fun i f hi => ?_⟩
  obtain ⟨v, hv, hc⟩ := h2 i f hi
  exact ⟨v, hv.up hm, hc⟩⟩
theorem LAtS.below {B : Nat} (h : LAtS S w n l A c) (hS : ∀ b, S b → b < B) (hb : Below B w w') : LAtS S w' n l A c := h.keep fun _ hp => hb.cell (hS _ hp)
theorem LAtS.take (h : LAtS S w n l A c) {k : Nat} (hk : k ≤ l.length) : LAtS S w n (l.take k) A c := by
 refine ⟨by rw [List.length_take]; have := h.1; omega, h.2.1, fun h0 => ?_⟩
 obtain ⟨ad, e, h1, h2⟩ := h.2.2 (by rw [List.length_take] at h0; omega)
 refine ⟨ad, e, h1, fun i f hi => ?_⟩
 rw [List.getElem?_take] at hi
 split at hi
 ·exact h2 i f hi
 ·cases hi
theorem LAtS.drop {ad : Addr} (h : LAtS S w n l (some ad) c) {k : Nat} (_ : k ≤ l.length) : LAtS S w n (l.drop k) (some (ad.add (k * 9))) (c - k) := by
 refine ⟨by rw [List.length_drop]; have := h.1; omega, Nat.le_trans (Nat.sub_le _ _) h.2.1, fun h0 => ?_⟩
 obtain ⟨ad', e, h1, h2⟩ := h.2.2 (by rw [List.length_drop] at h0; omega)
 simp only [Option.some.injEq] at e
 subst e
 refine ⟨_, rfl, by rw [RankLaw.add_block]; exact h1, fun i f hi => ?_⟩
 rw [List.getElem?_drop] at hi
 obtain ⟨v, hv, hc⟩ := h2 _ f hi
 refine ⟨v, hv, fun j u hu => ?_⟩
 rw [RankLaw.add_add, show k * 9 + (i * 9 + j) = (k + i) * 9 + j by omega]
 exact hc j u hu
theorem LAtS.none (S : Nat → Prop) (w : World) (n : Nat) (A : Option Addr) (hc : c ≤ maxLen) : LAtS S w n [] A c := ⟨by simp, hc, fun h0 => by simp at h0⟩
theorem LAtS.head {f : Flt} {ad : Addr} (h : LAtS S w n (f :: l) (some ad) c) : ∃ v, FAtS S w n f v ∧ S ad.block ∧ ∀ j u, v.cells[j]? = some u → w.cell? (ad.add j) = some u := by
 obtain ⟨ad', e, h1, h2⟩ := h.2.2 (by simp)
 simp only [Option.some.injEq] at e
 subst e
 obtain ⟨v, hv, hc⟩ := h2 0 f rfl
 exact ⟨v, hv, h1, fun j u hu => by simpa using hc j u hu⟩
theorem LAtS.of_row {B k : Nat} {e : TypeId} {v : Value} {xs : List Value} (ho : w.ownsRow B e 9 v l.length xs) (hk : KidsS S w n l xs) (hS : ∀ b, v.ownBlock = some b → S b) : ∃ A c, v = .slice A l.length c ∧ LAtS S w n l A c := by
 rcases ho.2 with ⟨hv, h0⟩ | ⟨g, cap, cur, hv, hb, hg, hc, hm, hcs, ht⟩
 ·refine ⟨Option.none, 0, by rw [hv, h0], by omega, by simp [maxLen], fun hp => by omega⟩
 ·refine ⟨_, cap, hv, hc, hm, fun _ => ⟨_, rfl, hS g (by rw [hv]; rfl), fun i f hi => ?_⟩⟩
  obtain ⟨u, h1, h2⟩ := hk i f hi
  refine ⟨u, h1, fun j x hx => ?_⟩
  subst hv
  have e : (⟨g, 0, Option.none⟩ : Addr).add (i * 9 + j) = ⟨g, i * 9 + j, Option.none⟩ := by unfold Addr.add; split <;> simp_all
  rw [e]
  exact row_cell ho (h2 j x hx)
end
end Go.FltLaw

namespace Go
section
variable {P : Program} {ops : Array Oper} {C : World → Prop} {Q : Act → Prop} {a : Act}
theorem quiet_start {l : List Oper} (h : ∀ L : List Oper, L = l → wpQuiet P ops C Q (L.drop 0) a) : wpQuiet P ops C Q l a := h l rfl
theorem drop_at {l L r : List Oper} {k : Nat} {o : Oper} (hL : L = l) (h : l.drop k = o :: r) (h' : r = l.drop (k + 1)) : L.drop k = o :: L.drop (k + 1) := by
 subst hL
 rw [h, h']
theorem quiet_at {L : List Oper} {k : Nat} {o : Oper} (hk : L.drop k = o :: L.drop (k + 1)) (h : ∀ K : Act → Prop, (∀ a, wpQuiet P ops C Q (L.drop (k + 1)) a → K a) → if Region.wanted o (yielded ops a.tmps) then o.quiet P a C K else K (a.put o.dst undef)) :
  wpQuiet P ops C Q (L.drop k) a := by
 rw [hk]
 exact wpQuiet_step h
theorem quiet_done {l L : List Oper} {k : Nat} (hL : L = l) (h : l.drop k = []) (hQ : Q a) : wpQuiet P ops C Q (L.drop k) a := by
 subst hL
 rw [h]
 exact wpQuiet_nil hQ
end
end Go

namespace Go.FltLaw
open Go.RowKit

def firstO : List Ordering → Ordering
 | [] => .eq
 | o :: l => o.then (firstO l)
theorem then_assoc (a b c : Ordering) : (a.then b).then c = a.then (b.then c) := by cases a <;> rfl
theorem firstO_app : ∀ l m : List Ordering, firstO (l ++ m) = (firstO l).then (firstO m)
 | [], m => rfl
 | o :: l, m => by
  show o.then (firstO (l ++ m)) = (o.then (firstO l)).then (firstO m)
  rw [firstO_app l m, then_assoc]
theorem lex_first {α : Type} (c : α → α → Ordering) : ∀ l m : List α, lex c l m = (firstO (List.zipWith c l m)).then (compare l.length m.length)
 | [], [] => by simp [lex, firstO]
 | [], b :: m => by rw [lex_len (.inl rfl)]; simp [firstO]
 | a :: l, [] => by rw [lex_len (.inr rfl)]; simp [firstO]
 | a :: l, b :: m => by
  unfold lex
  rw [lex_first c l m]
  show _ = ((c a b).then (firstO (List.zipWith c l m))).then (compare (l.length + 1) (m.length + 1))
  rw [then_assoc]
  congr 2
  simp only [compare, compareOfLessAndEq, Nat.add_lt_add_iff_right, Nat.add_right_cancel_iff]
def answers (k k' : Int) (ds vl st ds' vl' st' : List UInt8) (ms ms' : List (List UInt8)) (fn rl fn' rl' : List UInt8) (dn dn' : Bool) : List Ordering :=
 ([compare k k', txtCmp ds ds', txtCmp vl vl', txtCmp st st'] ++ List.zipWith txtCmp ms ms' ++ [compare ms.length ms'.length, txtCmp fn fn', txtCmp rl rl']) ++ (if dn = dn' then [] else [boolCmp dn dn'])
theorem cmp_first (k k' : Int) (ks ks' : List Flt) (ds vl st ds' vl' st' : List UInt8) (ms ms' : List (List UInt8)) (fn rl fn' rl' : List UInt8) (dn dn' : Bool) :
  cmp (.mk k ks ds vl st ms fn rl dn) (.mk k' ks' ds' vl' st' ms' fn' rl' dn') = (firstO (answers k k' ds vl st ds' vl' st' ms ms' fn rl fn' rl' dn dn')).then (lex cmp ks ks') := by
 unfold cmp answers
 rw [firstO_app, firstO_app, firstO_app, cmps_lex, lex_first txtCmp ms ms']
 have hb : firstO (if dn = dn' then [] else [boolCmp dn dn']) = boolCmp dn dn' := by
  cases dn <;> cases dn' <;> rfl
 rw [hb]
 simp only [firstO, then_assoc]
 rfl
def AllEq9 (l : List Ordering) (j : Nat) : Prop := ∀ i o, i < j → l[i]? = some o → o = .eq
theorem AllEq9.nil (l : List Ordering) : AllEq9 l 0 := fun i o h => by omega
theorem AllEq9.step {l : List Ordering} {j : Nat} (h : AllEq9 l j) (ho : l[j]? = some .eq) : AllEq9 l (j + 1) := fun i o hi hio => by
 by_cases e : i = j
 ·subst e
  rw [ho] at hio
  simp only [Option.some.injEq] at hio
  exact hio.symm
 ·exact h i o (by omega) hio
theorem AllEq9.first : ∀ {l : List Ordering} {j : Nat} {o : Ordering}, AllEq9 l j → l[j]? = some o → o ≠ .eq → firstO l = o
 | [], j, o, _, h, _ => by simp at h
 | q :: l, 0, o, _, h, ho => by
  simp only [List.getElem?_cons_zero, Option.some.injEq] at h
  subst h
  show q.then _ = q
  exact then_ne ho
 | q :: l, j + 1, o, ha, h, ho => by
  have hq := ha 0 q (by omega) rfl
  subst hq
  show firstO l = o
  exact AllEq9.first (l := l) (j := j) (fun i o' hi hio => ha (i + 1) o' (by omega) hio) h ho
theorem AllEq9.all : ∀ {l : List Ordering}, AllEq9 l l.length → firstO l = .eq
 | [], _ => rfl
 | q :: l, ha => by
  have hq := ha 0 q (by simp) rfl
  subst hq
  exact AllEq9.all (l := l) fun i o' hi hio => ha (i + 1) o' (by simp; omega) hio
theorem zip_take {α β γ : Type} (c : α → β → γ) : ∀ (l : List α) (m : List β) (j : Nat) (a : α) (b : β), l[j]? = some a → m[j]? = some b → (List.zipWith c l m).take (j + 1) = (List.zipWith c l m).take j ++ [c a b]
 | [], m, j, a, b, h, _ => by simp at h
 | x :: l, [], j, a, b, _, h => by simp at h
 | x :: l, y :: m, 0, a, b, h1, h2 => by
  simp only [List.getElem?_cons_zero, Option.some.injEq] at h1 h2
  subst h1 h2
  simp
 | x :: l, y :: m, j + 1, a, b, h1, h2 => by
  simp only [List.getElem?_cons_succ] at h1 h2
  have := zip_take c l m j a b h1 h2
  simpa using this
theorem less_txt : ∀ a b : List UInt8, Op.bytesLess a b = decide (txtCmp a b = .lt)
 | [], [] => by simp [Op.bytesLess, txtCmp, lex]
 | [], _ :: _ => by simp [Op.bytesLess, txtCmp, lex]
 | _ :: _, [] => by simp [Op.bytesLess, txtCmp, lex]
 | a :: aa, b :: bs => by
  unfold Op.bytesLess txtCmp lex byteCmp
  have ih := less_txt aa bs
  by_cases h : a < b
  ·have h' : a.toNat < b.toNat := h
   rw [Nat.compare_eq_lt.2 h']; simp [h]
  ·have h1 : ¬ a.toNat < b.toNat := h
   by_cases h2 : b < a
   ·have h' : b.toNat < a.toNat := h2
    rw [Nat.compare_eq_gt.2 h']
    have hne : (a == b) = false := by
     simp only [beq_eq_false_iff_ne, ne_eq]
     intro e; subst e; omega
    simp [h, hne]
   ·have h2' : ¬ b.toNat < a.toNat := h2
    have hab : a = b := UInt8.toNat_inj.1 (by omega)
    subst hab
    rw [Nat.compare_eq_eq.2 rfl]
    simp only [UInt8.lt_irrefl, decide_false, beq_self_eq_true, Bool.true_and, Bool.false_or]
    rw [ih]
    rfl
theorem same_txt (a b : List UInt8) : (a == b) = decide (txtCmp a b = .eq) := by
 by_cases h : a = b
 ·subst h
  have : txtCmp a a = .eq := by
   have e := compare_txt a a
   have : Lib.compareBytes a a = 0 := by
    clear e
    induction a with
    | nil => rfl
    | cons x l ih => simp [Lib.compareBytes, ih]
   rw [this] at e
   exact num_zero.1 e.symm
  simp [this]
 ·have hne : txtCmp a b ≠ .eq := fun e => h (by
   have := less_txt a b
   induction a generalizing b with
   | nil => cases b with
    | nil => rfl
    | cons y m => simp [txtCmp, lex] at e
   | cons x l ih => cases b with
    | nil => simp [txtCmp, lex] at e
    | cons y m =>
     unfold txtCmp lex at e
     cases hb : byteCmp x y with
     | lt => rw [hb] at e; cases e
     | gt => rw [hb] at e; cases e
     | eq =>
      rw [hb] at e
      have hxy : x = y := UInt8.toNat_inj.1 (by simpa [byteCmp] using hb)
      subst hxy
      by_cases hl : l = m
      ·subst hl; rfl
      ·exact absurd (ih m (by simpa using hl) e (less_txt l m)) hl)
  simp [hne, h]
end Go.FltLaw

namespace Go.Proofs.YtdkfmckbeagenaaGreatDoor
open Go.RowKit Go.FltLaw Go.Lib Go.RankLaw

theorem number_p (a b : Int) (w : World) : Calls Tryz.prog 60 #[.int .i64 a, .int .i64 b] w fun e w' => e = .returned (.int .i64 (num (compare a b))) ∧ w' = w := by
 by_cases h : a < b
 ·have e : compare a b = .lt := by simp only [compare, compareOfLessAndEq]; rw [if_pos h]
  rw [e]
  go_enter Tryz.func60, Tryz.ntmps60
  go_wp2_with fail
  go_ret
  exact ⟨rfl, rfl⟩
 ·by_cases h2 : a = b
  ·subst h2
   have e : compare a a = .eq := by simp
   rw [e]
   go_enter Tryz.func60, Tryz.ntmps60
   go_wp2_with fail
   go_ret
   exact ⟨rfl, rfl⟩
  ·have e : compare a b = .gt := by simp only [compare, compareOfLessAndEq]; rw [if_neg h, if_neg h2]
   have h3 : b < a := by omega
   rw [e]
   go_enter Tryz.func60, Tryz.ntmps60
   go_wp2_with fail
   go_ret
   exact ⟨rfl, rfl⟩
theorem bytes_list (a : List UInt8) : (⟨a.toArray⟩ : ByteArray).toList = a := by rw [Lib.toList_data]
theorem sign_r (a b : List UInt8) (w : World) : Calls Tryz.prog 61 #[.string ⟨a.toArray⟩, .string ⟨b.toArray⟩] w fun e w' => e = .returned (.int .i64 (num (txtCmp a b))) ∧ w' = w := by
 have h1 := less_txt a b
 have h2 := same_txt a b
 have ea := bytes_list a
 have eb := bytes_list b
 cases hc : txtCmp a b
 ·rw [hc] at h1
  have h1 : Op.bytesLess a b = true := by simpa using h1
  clear h2 hc
  go_enter Tryz.func61, Tryz.ntmps61
  go_wp2_with fail
  go_ret
  exact ⟨rfl, rfl⟩
 ·rw [hc] at h1 h2
  have h1 : Op.bytesLess a b = false := by simpa using h1
  have h2 : (a == b) = true := by rw [h2]; rfl
  have hab : a = b := by simpa using h2
  clear hc h2 eb
  subst hab
  go_enter Tryz.func61, Tryz.ntmps61
  go_wp2_with fail
  go_ret
  exact ⟨rfl, rfl⟩
 ·rw [hc] at h1 h2
  have h1 : Op.bytesLess a b = false := by simpa using h1
  have h2 : (a == b) = false := by rw [h2]; rfl
  clear hc
  go_enter Tryz.func61, Tryz.ntmps61
  go_wp2_with fail
  go_ret
  exact ⟨rfl, rfl⟩
def RefCmp : Prop := ∀ (fuel : Nat) (f g : Flt) (vf vg : Value) (w : World) (B B' : Nat), FAt false w 0 B fuel f vf → FAt false w 0 B' fuel g vg → B ≤ w.heap.size → B' ≤ w.heap.size →
 Calls Tryz.prog 23 #[vf, vg] w fun e w' => e = .returned (.int .i64 (num (order f g))) ∧ Below w.heap.size w w'
end Go.Proofs.YtdkfmckbeagenaaGreatDoor
