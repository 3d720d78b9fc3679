/-
  What a comparison of two filters gives, as a number. No program.
 The number of choices that a run has drawn never falls, whatever runs. No program.
-/
import Derived.Test.YtdkfmckbeagenaaGreatDoorQA1
import Derived.Lib.Bytealg
import Derived.Calls
import Derived.AtR
namespace Go.FltLaw

theorem compare_txt : ∀ a b : List UInt8, Lib.compareBytes a b = num (txtCmp a b)
 | [], [] => rfl
 | [], _ :: _ => rfl
 | _ :: _, [] => rfl
 | a :: as, b :: bs => by
  unfold Lib.compareBytes txtCmp lex byteCmp
  by_cases h : a < b
  ·have h' : a.toNat < b.toNat := h
   rw [if_pos h, Nat.compare_eq_lt.2 h']; rfl
  ·rw [if_neg h]
   by_cases h2 : b < a
   ·have h' : b.toNat < a.toNat := h2
    rw [if_pos h2, Nat.compare_eq_gt.2 h']; rfl
   ·rw [if_neg h2]
    have h' : ¬ a.toNat < b.toNat := h
    have h2' : ¬ b.toNat < a.toNat := h2
    rw [Nat.compare_eq_eq.2 (by omega)]
    exact compare_txt as bs
def sgn (n : Int) : Int := if n < 0 then -1 else min n 1
theorem sgn_int (a b : Int) : sgn (a - b) = num (compare a b) := by
 unfold sgn
 simp only [compare, compareOfLessAndEq]
 by_cases h : a < b
 ·rw [if_pos (by omega), if_pos h]; rfl
 ·rw [if_neg (by omega), if_neg h]
  by_cases h2 : a = b
  ·rw [if_pos h2]
   show min (a - b) 1 = 0
   omega
  ·rw [if_neg h2]
   show min (a - b) 1 = 1
   omega
theorem sgn_len (a b : Nat) : sgn ((a : Int) - b) = num (compare a b) := by
 rw [sgn_int]
 simp only [compare, compareOfLessAndEq]
 by_cases h : a < b
 ·rw [if_pos (by omega), if_pos h]
 ·rw [if_neg (by omega), if_neg h]
  by_cases h2 : a = b
  ·rw [if_pos (by omega), if_pos h2]
  ·rw [if_neg (by omega), if_neg h2]
theorem num_zero {o : Ordering} : num o = 0 ↔ o = .eq := by cases o <;> simp [num]
theorem then_of {a b : Ordering} (h : a = .eq) : a.then b = b := by subst h; rfl
theorem then_ne {a b : Ordering} (h : a ≠ .eq) : a.then b = a := by cases a <;> simp_all [Ordering.then]
theorem cmps_lex : ∀ l m : List Flt, cmps l m = lex cmp l m
 | [], [] => by simp [cmps, lex]
 | [], _ :: _ => by simp [cmps, lex]
 | _ :: _, [] => by simp [cmps, lex]
 | f :: fs, g :: gs => by
  unfold cmps lex
  rw [cmps_lex fs gs]
def LikeTo {α : Type} (c : α → α → Ordering) (l m : List α) (j : Nat) : Prop := lex c l m = lex c (l.drop j) (m.drop j)
section
variable {α : Type} {c : α → α → Ordering} {l m : List α} {j : Nat} {a b : α}
theorem LikeTo.start : LikeTo c l m 0 := rfl
theorem lex_drop (ha : l[j]? = some a) (hb : m[j]? = some b) : lex c (l.drop j) (m.drop j) = (c a b).then (lex c (l.drop (j + 1)) (m.drop (j + 1))) := by
 obtain ⟨h1, e1⟩ := List.getElem?_eq_some_iff.1 ha
 obtain ⟨h2, e2⟩ := List.getElem?_eq_some_iff.1 hb
 rw [List.drop_eq_getElem_cons h1, List.drop_eq_getElem_cons h2, e1, e2, lex]
theorem LikeTo.step (h : LikeTo c l m j) (ha : l[j]? = some a) (hb : m[j]? = some b) (he : c a b = .eq) : LikeTo c l m (j + 1) := by
 unfold LikeTo at h ⊢
 rw [h, lex_drop ha hb, he]
 rfl
theorem LikeTo.differ (h : LikeTo c l m j) (ha : l[j]? = some a) (hb : m[j]? = some b) (he : c a b ≠ .eq) : lex c l m = c a b := by
 unfold LikeTo at h
 rw [h, lex_drop ha hb, then_ne he]
theorem lex_len : ∀ {l m : List α}, (l = [] ∨ m = []) → lex c l m = compare l.length m.length
 | [], [], _ => by simp [lex]
 | [], _ :: _, _ => by
  simp only [lex, List.length_nil, List.length_cons]
  exact (Nat.compare_eq_lt.2 (by omega)).symm
 | _ :: _, [], _ => by
  simp only [lex, List.length_nil, List.length_cons]
  exact (Nat.compare_eq_gt.2 (by omega)).symm
 | _ :: _, _ :: _, h => by rcases h with h | h <;> cases h
theorem LikeTo.done (h : LikeTo c l m j) (hj : j = min l.length m.length) : lex c l m = compare l.length m.length := by
 unfold LikeTo at h
 rw [h, lex_len]
 ·simp only [List.length_drop, compare, compareOfLessAndEq]
  by_cases h1 : l.length < m.length
  ·rw [if_pos (by omega), if_pos h1]
  ·rw [if_neg (by omega), if_neg h1]
   by_cases h2 : l.length = m.length
   ·rw [if_pos (by omega), if_pos h2]
   ·rw [if_neg (by omega), if_neg h2]
 ·rcases Nat.le_total l.length m.length with h1 | h1
  ·exact .inl (List.drop_eq_nil_of_le (by omega))
  ·exact .inr (List.drop_eq_nil_of_le (by omega))
end

section
variable {k k' : Int} {ks ks' : List Flt} {ds vl st ds' vl' st' : List UInt8} {ms ms' : List (List UInt8)} {fn rl fn' rl' : List UInt8} {dn dn' : Bool}
theorem cmp_k (h : k ≠ k') : num (cmp (.mk k ks ds vl st ms fn rl dn) (.mk k' ks' ds' vl' st' ms' fn' rl' dn')) = sgn (k - k') := by
 unfold cmp
 rw [then_ne (by simpa using h), sgn_int]
theorem cmp_ds (h : txtCmp ds ds' ≠ .eq) : num (cmp (.mk k ks ds vl st ms fn rl dn) (.mk k ks' ds' vl' st' ms' fn' rl' dn')) = num (txtCmp ds ds') := by
 unfold cmp
 rw [then_of (show compare k k = .eq by simp), then_ne h]
theorem cmp_vl (h1 : txtCmp ds ds' = .eq) (h : txtCmp vl vl' ≠ .eq) : num (cmp (.mk k ks ds vl st ms fn rl dn) (.mk k ks' ds' vl' st' ms' fn' rl' dn')) = num (txtCmp vl vl') := by
 unfold cmp
 rw [then_of (show compare k k = .eq by simp), then_of h1, then_ne h]
theorem cmp_st (h1 : txtCmp ds ds' = .eq) (h2 : txtCmp vl vl' = .eq) (h : txtCmp st st' ≠ .eq) : num (cmp (.mk k ks ds vl st ms fn rl dn) (.mk k ks' ds' vl' st' ms' fn' rl' dn')) = num (txtCmp st st') := by
 unfold cmp
 rw [then_of (show compare k k = .eq by simp), then_of h1, then_of h2, then_ne h]
theorem cmp_ms (h1 : txtCmp ds ds' = .eq) (h2 : txtCmp vl vl' = .eq) (h3 : txtCmp st st' = .eq) (h : lex txtCmp ms ms' ≠ .eq) : num (cmp (.mk k ks ds vl st ms fn rl dn) (.mk k ks' ds' vl' st' ms' fn' rl' dn')) = num (lex txtCmp ms ms') := by
 unfold cmp
 rw [then_of (show compare k k = .eq by simp), then_of h1, then_of h2, then_of h3, then_ne h]
theorem cmp_fn (h1 : txtCmp ds ds' = .eq) (h2 : txtCmp vl vl' = .eq) (h3 : txtCmp st st' = .eq) (h4 : lex txtCmp ms ms' = .eq) (h : txtCmp fn fn' ≠ .eq) : num (cmp (.mk k ks ds vl st ms fn rl dn) (.mk k ks' ds' vl' st' ms' fn' rl' dn')) = num (txtCmp fn fn') := by
 unfold cmp
 rw [then_of (show compare k k = .eq by simp), then_of h1, then_of h2, then_of h3, then_of h4, then_ne h]
theorem cmp_rl (h1 : txtCmp ds ds' = .eq) (h2 : txtCmp vl vl' = .eq) (h3 : txtCmp st st' = .eq) (h4 : lex txtCmp ms ms' = .eq) (h5 : txtCmp fn fn' = .eq) (h : txtCmp rl rl' ≠ .eq) : num (cmp (.mk k ks ds vl st ms fn rl dn) (.mk k ks' ds' vl' st' ms' fn' rl' dn')) = num (txtCmp rl rl') := by
 unfold cmp
 rw [then_of (show compare k k = .eq by simp), then_of h1, then_of h2, then_of h3, then_of h4, then_of h5, then_ne h]
theorem cmp_dn (h1 : txtCmp ds ds' = .eq) (h2 : txtCmp vl vl' = .eq) (h3 : txtCmp st st' = .eq) (h4 : lex txtCmp ms ms' = .eq) (h5 : txtCmp fn fn' = .eq) (h6 : txtCmp rl rl' = .eq) (h : dn ≠ dn') :
  num (cmp (.mk k ks ds vl st ms fn rl dn) (.mk k ks' ds' vl' st' ms' fn' rl' dn')) = if dn then 1 else -1 := by
 unfold cmp
 have hb : boolCmp dn dn' ≠ .eq := fun e => h (by unfold boolCmp at e; cases dn <;> cases dn' <;> simp_all)
 rw [then_of (show compare k k = .eq by simp), then_of h1, then_of h2, then_of h3, then_of h4, then_of h5, then_of h6, then_ne hb]
 cases dn <;> cases dn' <;> simp_all [boolCmp] <;> rfl
theorem cmp_ks (h1 : txtCmp ds ds' = .eq) (h2 : txtCmp vl vl' = .eq) (h3 : txtCmp st st' = .eq) (h4 : lex txtCmp ms ms' = .eq) (h5 : txtCmp fn fn' = .eq) (h6 : txtCmp rl rl' = .eq) :
  num (cmp (.mk k ks ds vl st ms fn rl dn) (.mk k ks' ds' vl' st' ms' fn' rl' dn)) = num (lex cmp ks ks') := by
 unfold cmp
 rw [then_of (show compare k k = .eq by simp), then_of h1, then_of h2, then_of h3, then_of h4, then_of h5, then_of h6, then_of (show boolCmp dn dn = .eq by simp [boolCmp]), cmps_lex]
end
end Go.FltLaw

namespace Go.Drawn
open Go

theorem ask_ge {α : Type} : ∀ (a : Ask α) (w : World), w.drawn ≤ (w.ask a).2.drawn := by
 intro a
 induction a with
 | done a => intro w; exact Nat.le_refl _
 | ask what range k ih =>
  intro w
  unfold World.ask
  simp only
  split
  ·exact ih _ _
  ·exact Nat.le_trans (Nat.le_succ _) (ih _ { w with drawn := w.drawn + 1 })
theorem sys_ge (w : World) (c : Sys) : w.drawn ≤ (w.sys c).2.drawn := by
 unfold World.sys
 have h := ask_ge (Kernel.perform c w.os) w
 split
 ·exact Nat.le_refl _
 ·rename_i e
  rw [e] at h
  exact h
theorem viewStore_eq {p : Program} {w w' : World} {a : Addr} {u : TypeId} {k : Addr} {v : Value} {at_ : Bool} {l : List Addr} (h : w.viewStore p a u k v at_ = .ok (w', l)) : w'.drawn = w.drawn := by
 unfold World.viewStore at h
 simp only [bind, Except.bind, pure, Except.pure, throw, throwThe, MonadExceptOf.throw] at h
 repeat' split at h
 all_goals first
  | (cases h; done)
  | (injection h with h; injection h with h1 h2; subst h1; rfl)
  | (simp at h; done)
theorem farStore_eq {p : Program} {w w' : World} {a : Addr} {v : Value} {at_ : Bool} {l : List Addr} (h : w.farStore p a v at_ = .ok (w', l)) : w'.drawn = w.drawn := by
 unfold World.farStore at h
 split at h
 ·split at h
  ·rename_i hv
   injection h with h
   rw [h] at hv
   exact viewStore_eq hv
  ·cases h
 ·cases h
def left {α : Type} : Result α → World
 | .ok _ w => w
 | .halt _ w => w
theorem run_ge {α : Type} (p : Program) : ∀ (e : Sem α) (w : World), w.drawn ≤ (left (e.run p w)).drawn := by
 intro e
 induction e with
 | pure a => intro w; exact Nat.le_refl _
 | load m a k ih =>
  intro w
  unfold Sem.run
  split
  ·exact ih _ _
  ·split
   ·exact ih _ _
   ·exact Nat.le_refl _
 | store m a v k ih =>
  intro w
  cases v
  case agg => exact Nat.le_refl _
  case tuple => exact Nat.le_refl _
  all_goals
   unfold Sem.run
   split
   ·split
    ·exact Nat.le_refl _
    ·exact ih (w.setCell a _)
   ·split
    ·rename_i h
     rw [← farStore_eq h]
     exact ih _
    ·exact Nat.le_refl _
 | new o k ih => intro w; exact ih _ { w with heap := w.heap.push o }
 | shape r k ih => intro w; exact ih _ _
 | freeze a n k ih =>
  intro w
  have e : (w.freeze a n).drawn = w.drawn := by unfold World.freeze; split <;> rfl
  show w.drawn ≤ _
  rw [← e]
  exact ih _
 | frozen a k ih => intro w; exact ih _ _
 | getObj r k ih =>
  intro w
  unfold Sem.run
  split
  ·exact Nat.le_refl _
  ·exact ih _ _
  ·exact Nat.le_refl _
 | setObj r o k ih =>
  intro w
  unfold Sem.run
  split
  ·exact Nat.le_refl _
  ·exact ih { w with heap := w.heap.setIfInBounds r o }
  ·exact Nat.le_refl _
 | choose q k ih =>
  intro w
  unfold Sem.run
  split
  ·exact ih _ _
  ·exact Nat.le_trans (Nat.le_succ _) (ih _ { w with drawn := w.drawn + 1 })
 | sys c k ih => intro w; exact Nat.le_trans (sys_ge w c) (ih _ _)
 | program k ih => intro w; exact ih _ _
 | mark m k ih => intro w; exact ih _
 | halt h => intro w; exact Nat.le_refl _
theorem ok_ge {α : Type} {p : Program} {e : Sem α} {w w' : World} {a : α} (h : e.run p w = .ok a w') : w.drawn ≤ w'.drawn := by
 have := run_ge p e w
 rw [h] at this
 exact this
theorem halt_ge {α : Type} {p : Program} {e : Sem α} {w w' : World} {a : Halt} (h : e.run p w = .halt a w') : w.drawn ≤ w'.drawn := by
 have := run_ge p e w
 rw [h] at this
 exact this
theorem okT_ge {α : Type} {p : Program} {e : Sem α} {w w' : World} {a : α} {es es' : Array Event} (h : e.runT p w es = (.ok a w', es')) : w.drawn ≤ w'.drawn := by
 rw [Sem.runT_eq] at h
 injection h with h1 h2
 exact ok_ge h1
theorem haltT_ge {α : Type} {p : Program} {e : Sem α} {w w' : World} {a : Halt} {es es' : Array Event} (h : e.runT p w es = (.halt a w', es')) : w.drawn ≤ w'.drawn := by
 rw [Sem.runT_eq] at h
 injection h with h1 h2
 exact halt_ge h1
theorem runT_ge {α : Type} (p : Program) (e : Sem α) (w : World) (es : Array Event) : w.drawn ≤ (left (e.runT p w es).1).drawn := by
 rw [Sem.runT_eq]
 exact run_ge p e w
theorem ok1_ge {α : Type} {p : Program} {e : Sem α} {w w' : World} {a : α} {es : Array Event} (h : (e.runT p w es).1 = .ok a w') : w.drawn ≤ w'.drawn := by
 have := runT_ge p e w es
 rw [h] at this
 exact this
theorem halt1_ge {α : Type} {p : Program} {e : Sem α} {w w' : World} {a : Halt} {es : Array Event} (h : (e.runT p w es).1 = .halt a w') : w.drawn ≤ w'.drawn := by
 have := runT_ge p e w es
 rw [h] at this
 exact this
def Low (n : Nat) : GStep → Prop
 | .go _ w _ => n ≤ w.drawn
 | .comm _ _ _ _ w _ => n ≤ w.drawn
 | .spawn _ _ w _ => n ≤ w.drawn
 | .count _ w _ => n ≤ w.drawn
 | .timer _ _ w _ => n ≤ w.drawn
 | .alone _ _ w _ => n ≤ w.drawn
 | .newcoro _ _ _ w _ => n ≤ w.drawn
 | .coroswitch _ _ _ w _ => n ≤ w.drawn
 | .collect _ w _ => n ≤ w.drawn
 | .watch _ w _ => n ≤ w.drawn
 | .ended .. => True
theorem low_after {n : Nat} {es : Array Event} {s : GStep} : Low n (GStep.after es s) ↔ Low n s := by cases s <;> exact Iff.rfl
theorem Low.le {n m : Nat} {s : GStep} (h : Low m s) (hn : n ≤ m) : Low n s := by
 cases s <;> first | exact trivial | exact Nat.le_trans hn h
theorem doReturn_low (p : Program) (main : Bool) (fr : Frame) (cs : List Frame) (dying : Option Dying) (v : Value) (w : World) : Low w.drawn (doReturn p main fr cs dying v w) := by
 unfold doReturn
 repeat' split
 all_goals first | exact trivial | exact Nat.le_refl _
theorem endWith_low (w : World) (fd : Nat) (text : ByteArray) (o : Outcome) : Low w.drawn (endWith w fd text o) := by
 unfold endWith
 simp only
 repeat' split
 all_goals exact trivial
theorem dieOf_low (fr : Frame) (a : List ByteArray) (m : String) (b : Bool) (w : World) : Low w.drawn (dieOf fr a m b w) := Nat.le_refl _
theorem endThrow_low (fr : Frame) (m : String) (w : World) : Low w.drawn (endThrow fr m w) := Nat.le_refl _
theorem endPrinting_low (p : Program) (fr : Frame) (v : Value) (w : World) : Low w.drawn (endPrinting p fr v w) := by
 unfold endPrinting
 simp only
 split
 ·exact endThrow_low _ _ _
 ·exact trivial
theorem endFatal_low (p : Program) (fr : Frame) (cs : List Frame) (dying : Option Dying) (m : String) (w : World) : Low w.drawn (endFatal p fr cs dying m w) := by
 unfold endFatal
 simp only
 split
 ·exact (dieOf_low _ _ _ _ _).le (ok_ge (by assumption))
 ·exact trivial
 ·exact trivial
theorem writeOn_low (p : Program) (fr : Frame) (d : Dying) (f : Fatal) (w : World) : Low w.drawn (writeOn p fr d f w) := by
 unfold writeOn
 simp only
 split
 ·exact trivial
 ·split
  ·exact okT_ge (by assumption)
  ·exact haltT_ge (by assumption)
  ·exact trivial
  ·exact trivial
theorem die_low (p : Program) (fr : Frame) (d : Dying) (w : World) : Low w.drawn (die p fr d w) := by
 unfold die
 split
 ·exact writeOn_low _ _ _ _ _
 ·split
  ·split
   ·exact Nat.le_refl _
   ·exact endWith_low _ _ _ _
  ·simp only
   split
   ·exact Nat.le_refl _
   ·split
    ·exact ok_ge (by assumption)
    ·exact trivial
   ·rename_i t recv name _
    have hx := runT_ge p (invoke (.fn (.method name) #[]) #[.iface t recv]) w #[]
    generalize (invoke (.fn (.method name) #[]) #[.iface t recv]).runT p w #[] = x at hx ⊢
    obtain ⟨r, es⟩ := x
    simp only [low_after]
    split
    ·exact hx
    ·exact hx
    ·exact trivial
    ·exact (endPrinting_low _ _ _ _).le hx
    ·exact trivial
   ·exact trivial
theorem early_low (p : Program) (fr : Frame) (cs : List Frame) (dying : Option Dying) (g : Nat) (w : World) : Low w.drawn (early p fr cs dying g w) := by
 unfold early
 simp only
 repeat' split
 all_goals first
  | exact trivial
  | exact Nat.le_refl _
  | (have h := ok_ge (by assumption); exact h)
theorem callDeferred_low (p : Program) (fr : Frame) (cs : List Frame) (dying : Option Dying) (d : Deferred) (w : World) : Low w.drawn (callDeferred p fr cs dying d w) := by
 unfold callDeferred
 have hx := runT_ge p (invoke d.target d.args) w #[]
 generalize (invoke d.target d.args).runT p w #[] = x at hx ⊢
 obtain ⟨r, es⟩ := x
 simp only [low_after]
 generalize (d.target matches .nil && fr.mode matches .panicking _) = b
 cases b
 ·simp only [Bool.false_eq_true, if_false, low_after]
  repeat' split
  all_goals first
   | exact trivial
   | exact hx
   | exact (endFatal_low _ _ _ _ _ _).le hx
   | exact (endThrow_low _ _ _).le hx
 ·exact trivial
theorem unwind_low (p : Program) (main : Bool) (fr : Frame) (cs : List Frame) (dying : Option Dying) (w : World) : Low w.drawn (unwind p main fr cs dying w) := by
 unfold unwind
 repeat' split
 all_goals try simp only [low_after]
 repeat' split
 all_goals first
  | exact trivial
  | exact Nat.le_refl _
  | exact callDeferred_low _ _ _ _ _ _
  | exact doReturn_low _ _ _ _ _ _ _
  | exact endPrinting_low _ _ _ _
  | exact okT_ge (by assumption)
  | exact ok_ge (by assumption)
  | exact (doReturn_low _ _ _ _ _ _ _).le (okT_ge (by assumption))
theorem low_elim {α : Type} {n : Nat} {o : Option α} {a : GStep} {f : α → GStep} (h1 : Low n a) (h2 : ∀ x, Low n (f x)) : Low n (o.elim a f) := by
 cases o
 ·exact h1
 ·exact h2 _
theorem apply_low (p : Program) (listen : Bool) (fr : Frame) (cs : List Frame) (dying : Option Dying) (s : Sem Next) (w : World) : Low w.drawn (stepG.apply p listen fr cs dying s w) := by
 unfold stepG.apply
 have hx : w.drawn ≤ (left (if listen = true then s.runT p w #[] else (s.run p w, #[])).1).drawn := by
  split
  ·rw [Sem.runT_eq]; exact run_ge p s w
  ·exact run_ge p s w
 generalize (if listen = true then s.runT p w #[] else (s.run p w, #[])) = x at hx ⊢
 obtain ⟨r, es⟩ := x
 simp only [low_after]
 split
 all_goals (repeat' split)
 all_goals first
  | exact trivial
  | exact hx
  | exact (endFatal_low _ _ _ _ _ _).le hx
  | exact (endThrow_low _ _ _).le hx
  | exact (early_low _ _ _ _ _ _).le hx
theorem oper_low (p : Program) (listen : Bool) (fr : Frame) (cs : List Frame) (dying : Option Dying) (w : World) : Low w.drawn (stepG.oper p listen fr cs dying w) := by
 unfold stepG.oper
 repeat' split
 all_goals first
  | exact trivial
  | exact apply_low _ _ _ _ _ _ _
theorem exec_low (p : Program) (main listen : Bool) (fr : Frame) (cs : List Frame) (dying : Option Dying) (w : World) : Low w.drawn (stepG.exec p main listen fr cs dying w) := by
 unfold stepG.exec
 dsimp only
 split
 all_goals (repeat' split)
 all_goals (try simp only [low_after])
 all_goals (repeat' split)
 all_goals first
  | exact trivial
  | exact Nat.le_refl _
  | exact okT_ge (by assumption)
  | exact haltT_ge (by assumption)
  | exact ok_ge (by assumption)
  | exact apply_low _ _ _ _ _ _ _
  | exact oper_low _ _ _ _ _ _
  | exact (doReturn_low _ _ _ _ _ _ _).le (okT_ge (by assumption))
  | exact (apply_low _ _ _ _ _ _ _).le (okT_ge (by assumption))
  | exact low_elim trivial fun _ => apply_low _ _ _ _ _ _ _
  | exact (doReturn_low _ _ _ _ _ _ _).le (ok1_ge (by assumption))
  | exact (apply_low _ _ _ _ _ _ _).le (ok1_ge (by assumption))
  | exact ok1_ge (by assumption)
  | exact halt1_ge (by assumption)
  | (refine low_elim ?_ ?_
     ·first
       | exact trivial
       | exact Nat.le_refl _
       | exact low_after.2 ((doReturn_low _ _ _ _ _ _ _).le (ok1_ge (by assumption)))
     ·intro _; exact Nat.le_refl _)
theorem stepG_low (p : Program) (main : Bool) (g : Goroutine) (w : World) (listen : Bool) : Low w.drawn (stepG p main g w listen) := by
 unfold stepG
 repeat' split
 all_goals first
  | exact die_low _ _ _ _
  | exact exec_low _ _ _ _ _ _ _
  | exact unwind_low _ _ _ _ _ _
def LowS (n : Nat) : Stepped → Prop
 | .next m => n ≤ m.world.drawn
 | .ended .. => True
theorem LowS.le {n m : Nat} {s : Stepped} (h : LowS m s) (hn : n ≤ m) : LowS n s := by
 cases s
 ·exact Nat.le_trans hn h
 ·exact trivial
theorem waitingAt_eq {rest : Rest} {cases : Array CommCase} {w w' : World} (h : waitingAt rest cases w = some w') : w'.drawn = w.drawn := by
 unfold waitingAt at h
 repeat' split at h
 all_goals first
  | (cases h; done)
  | (injection h with h; subst h; rfl)
theorem communicate_low (p : Program) (rest : Rest) (gs : Array Goroutine) (i : Nat) (g : Goroutine) (cases : Array CommCase) (blocking : Bool) (shape : CommShape) (w : World) : LowS w.drawn (communicate p rest gs i g cases blocking shape w).1 := by
 unfold communicate
 dsimp only
 repeat' split
 all_goals first
  | exact trivial
  | exact Nat.le_refl _
  | (have h := waitingAt_eq (by assumption); exact Nat.le_of_eq h.symm)
  | exact Nat.le_trans (ok_ge (by assumption)) (halt_ge (by assumption))
  | (have h : w.drawn ≤ World.drawn _ := ok_ge (by assumption); exact h)
  | (have h2 : World.drawn _ ≤ World.drawn _ := ok_ge (by assumption)
     have h1 : w.drawn ≤ World.drawn _ := ok_ge (by assumption)
     exact Nat.le_trans h1 h2)
theorem look_low (p : Program) (gs : Array Goroutine) (rest : Rest) (w : World) : LowS w.drawn (look p gs rest w) := by
 unfold look
 dsimp only
 repeat' split
 all_goals first
  | exact trivial
  | (have h : w.drawn ≤ World.drawn _ := ok_ge (by assumption); exact h)
theorem drain_eq (w : World) (c : Nat) : (drain w c).2.drawn = w.drawn := by
 unfold drain
 split <;> rfl
theorem retime_eq (m : Machine) (k : Nat) (t : Timer) (a b : Nat) : (retime m k t a b).2.world.drawn = m.world.drawn := by
 unfold retime
 dsimp only
 cases t.chan
 ·rfl
 ·exact drain_eq _ _
theorem opened_eq {m m' : Machine} {var : Addr} (h : timerOp.opened m var = some m') : m'.world.drawn = m.world.drawn := by
 unfold timerOp.opened at h
 repeat' split at h
 all_goals first
  | (cases h; done)
  | (injection h with h; subst h; rfl)
theorem named_eq {m m' : Machine} {var : Addr} {f : Nat → Timer → Value × Machine} {v : Value} (hf : ∀ k t, (f k t).2.world.drawn = m.world.drawn) (h : timerOp.named m var f = .ok (v, m')) : m'.world.drawn = m.world.drawn := by
 unfold timerOp.named at h
 split at h
 ·rename_i k _
  injection h with h
  have := hf k (m.rest.timers.getD k default)
  rw [h] at this
  exact this
 ·cases h
theorem timerOp_eq {m m' : Machine} {op : TimerOp} {v : Value} (h : timerOp m op = .ok (v, m')) : m'.world.drawn = m.world.drawn := by
 unfold timerOp at h
 split at h
 ·repeat' split at h
  all_goals first
   | (cases h; done)
   | (injection h with h; injection h with _ h; subst h; rfl)
 ·exact named_eq (fun k t => retime_eq m k t 0 t.period) h
 ·split at h
  ·have e := opened_eq (by assumption)
   exact named_eq (fun k t => by rw [retime_eq]; exact e) h
  ·cases h
 ·dsimp only at h
  injection h with h
  injection h with _ h
  subst h
  rfl
theorem endThrow_go {fr : Frame} {s : String} {w w' : World} {g : Goroutine} {es : Array Event} (h : endThrow fr s w = .go g w' es) : w.drawn ≤ w'.drawn := by
 have := endThrow_low fr s w
 rw [h] at this
 exact this
theorem runT_low (p : Program) (m : Machine) (i : Nat) (listen : Bool) : LowS m.world.drawn (runT p m i listen).1 := by
 unfold runT
 have hg := fun g => stepG_low p (i == 0) g m.world listen
 dsimp only
 generalize m.gs.swapAt! i { (default : Goroutine) with status := .finished } = q
 obtain ⟨g, gs⟩ := q
 dsimp only
 have hx := hg g
 generalize stepG p (i == 0) g m.world listen = s at hx ⊢
 cases s with
 | go g w es => exact hx
 | comm g cases blocking shape w es => exact (communicate_low _ _ _ _ _ _ _ _ _).le hx
 | spawn g child w es => exact hx
 | count g w es =>
  dsimp only
  split
  ·exact trivial
  ·exact hx
 | timer g op w es =>
  dsimp only
  repeat' split
  all_goals first
   | exact trivial
   | (have h := timerOp_eq (by assumption); exact Nat.le_trans hx (Nat.le_of_eq h.symm))
   | exact hx
   | exact Nat.le_trans hx (endThrow_go (by assumption))
 | alone g on w es => exact hx
 | newcoro g c d w es => exact hx
 | coroswitch g c ex w es =>
  dsimp only
  repeat' split
  all_goals first
   | exact trivial
   | exact hx
   | exact Nat.le_trans hx (endThrow_go (by assumption))
 | collect g w es => exact (look_low _ _ _ _).le hx
 | watch g w es => exact hx
 | ended o w es => exact trivial
def LowM (n : Nat) : Move → Prop
 | .goroutine m _ => n ≤ m.world.drawn
 | .machine s _ => LowS n s
theorem serve_low (p : Program) (m : Machine) (k : Nat) : LowS m.world.drawn (serve p m k) := by
 unfold serve
 dsimp only
 repeat' split
 all_goals first
  | exact trivial
  | exact Nat.le_refl _
theorem LowM.le {n m : Nat} {s : Move} (h : LowM m s) (hn : n ≤ m) : LowM n s := by
 cases s with
 | goroutine k i => exact Nat.le_trans hn h
 | machine s ops => exact LowS.le h hn
theorem look_next {p : Program} {gs : Array Goroutine} {rest : Rest} {w : World} {m : Machine} (h : look p gs rest w = .next m) : w.drawn ≤ m.world.drawn := by
 have := look_low p gs rest w
 rw [h] at this
 exact this
theorem askOn_low (p : Program) (m : Machine) : LowM m.world.drawn (askOn p m) := by
 unfold askOn
 dsimp only
 repeat' split
 all_goals first
  | exact trivial
  | exact Nat.le_refl _
  | (have h : m.world.drawn ≤ World.drawn _ := ok_ge (by assumption)
     first
      | exact h
      | exact (serve_low p _ _).le h)
  | (show m.world.drawn ≤ World.drawn _
     try simp only [Machine.advanceTo]
     repeat (first
      | exact ok_ge (by assumption)
      | (have h : m.world.drawn ≤ World.drawn _ := ok_ge (by assumption); exact h)
      | refine Nat.le_trans ?_ (ok_ge (by assumption))
      | simp only [Machine.advanceTo]))
theorem ask_low (p : Program) (m : Machine) : LowM m.world.drawn (ask p m) := by
 unfold ask
 repeat' split
 all_goals first
  | exact trivial
  | exact askOn_low p m
  | exact (askOn_low p _).le (Nat.le_trans (ok_ge (by assumption)) (look_next (by assumption)))
  | exact (askOn_low p _).le (ok_ge (by assumption))
  | exact LowS.le (look_low p _ _ _) (ok_ge (by assumption))
  | (have h : m.world.drawn ≤ World.drawn _ := ok_ge (by assumption); exact (askOn_low p _).le h)
theorem move_low (p : Program) (m : Machine) : LowM m.world.drawn (move p m) := by
 unfold move
 repeat' split
 all_goals first
  | exact trivial
  | exact Nat.le_refl _
  | exact ask_low p m
  | exact ask_low p { m with rest := { m.rest with slice := none } }
theorem stepT_low (p : Program) (m : Machine) (listen : Bool) : LowS m.world.drawn (stepT p m listen).1 := by
 have h := move_low p m
 unfold stepT
 generalize move p m = x at h ⊢
 cases x with
 | goroutine m' i => exact (runT_low p m' i listen).le h
 | machine s ops => exact h
theorem runN_ge (p : Program) : ∀ (n : Nat) {m m' : Machine}, runN p n m = .next m' → m.world.drawn ≤ m'.world.drawn
 | 0, m, m', h => by
  injection h with h
  subst h
  exact Nat.le_refl _
 | n + 1, m, m', h => by
  unfold runN at h
  have hl := stepT_low p m true
  unfold step at h
  generalize (stepT p m).1 = s at h hl
  cases s with
  | next m1 => exact Nat.le_trans hl (runN_ge p n h)
  | ended o w => cases h
theorem calls_ge {P : Program} {f : FuncId} {args : Array Value} {w : World} {R : Ending → World → Prop} (h : Calls P f args w R) : Calls P f args w fun e w' => R e w' ∧ ∀ v, e = .returned v → w.drawn ≤ w'.drawn := fun cs => by
 obtain ⟨e, w', fr, h1, h2, h3, h4⟩ := h cs
 refine ⟨e, w', fr, ⟨h1, fun v hv => ?_⟩, h2, h3, h4⟩
 subst hv
 obtain ⟨n, hn⟩ := h2
 exact runN_ge P n hn
end Go.Drawn
