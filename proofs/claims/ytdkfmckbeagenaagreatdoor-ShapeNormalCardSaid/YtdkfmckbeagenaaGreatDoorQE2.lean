/-
  Kids in a row: sorted, each once. Plain laws, and worlds of a sort. No program.
 slices.CompactFunc at filters, with the closure laid$1: each kid once.
-/
import Derived.Shelf.SlSortCmp.WholeK
import Derived.Deep.Cut
import Derived.Test.YtdkfmckbeagenaaGreatDoorQA2
import Derived.Test.YtdkfmckbeagenaaGreatDoorProg
import Derived.Test.YtdkfmckbeagenaaGreatDoorQB1
import Derived.Shelf.SlSortFuncK.SWK
import Derived.Deep.MidRow
import Derived.WalkKit
import Derived.Outline
import Derived.Lib.Hide
import Derived.Deep.LoopGhost
namespace Go.FltLaw
open Go.RowKit Go.RankLaw Go.Sort

structure El (S : Nat → Prop) (w : World) (n : Nat) where
 f : Flt
 c : List Value
 len : c.length = 9
 one : ∀ v ∈ c, v.oneCell' = true
 here : FAtS S w n f (.agg c.toArray)
 ok : may f
section
variable {S : Nat → Prop} {w : World} {n : Nat}
def elCf (x y : El S w n) : Int := num (cmp x.f y.f)
theorem num_neg {o : Ordering} : num o < 0 ↔ o = .lt := by cases o <;> simp [num]
theorem el_lt (x y : El S w n) : Go.Proofs.ltOf elCf x y = decide (cmp x.f y.f = .lt) := by
 unfold Go.Proofs.ltOf elCf
 simp [num_neg]
theorem cmp_nlt {f g : Flt} : cmp f g ≠ .lt ↔ cmp g f ≠ .gt := by
 rw [cmp_swap f g]
 cases cmp f g <;> simp
theorem el_swo : SWO (Go.Proofs.ltOf (elCf (S := S) (w := w) (n := n))) where
 irrefl x := by rw [el_lt]; simp [cmp_self]
 trans x y z h1 h2 := by
  rw [el_lt] at *
  simp only [decide_eq_true_eq] at *
  exact cmp_lt_trans h1 h2
 ntrans x y z h1 h2 := by
  rw [el_lt] at *
  simp only [decide_eq_false_iff_not] at *
  exact cmp_nlt.2 ((cmp_tri z.f y.f x.f (cmp_nlt.1 h2) (cmp_nlt.1 h1)).1)
variable [Inhabited (El S w n)]
structure Comp (d dk : Array (El S w n)) (m k : Nat) : Prop where
 size : dk.size = d.size
 pos : 0 < k
 le : k ≤ m
 high : ∀ j, k ≤ j → dk[j]! = d[j]!
 rise : ∀ i j, i < j → j < k → cmp dk[i]!.f dk[j]!.f = .lt
 within : ∀ j, j < k → ∃ i, i < m ∧ dk[j]!.f = d[i]!.f
 all : ∀ i, i < m → ∃ j, j < k ∧ dk[j]!.f = d[i]!.f
 last : dk[k - 1]!.f = d[m - 1]!.f
theorem Comp.start (d : Array (El S w n)) : Comp d d 1 1 :=
 ⟨rfl, by omega, Nat.le_refl _, fun _ _ => rfl, fun i j h1 h2 => by omega, fun j hj => ⟨j, hj, rfl⟩, fun i hi => ⟨i, hi, rfl⟩, rfl⟩
theorem Comp.skip {d dk : Array (El S w n)} {m k : Nat} (h : Comp d dk m k) (he : cmp d[m]!.f d[m - 1]!.f = .eq) : Comp d dk (m + 1) k := by
 have hl := h.last
 have hp := h.pos
 have e := cmp_eq _ _ he
 refine ⟨h.size, h.pos, by have := h.le; omega, h.high, h.rise, fun j hj => ?_, fun i hi => ?_, ?_⟩
 ·obtain ⟨i, h1, h2⟩ := h.within j hj
  exact ⟨i, by omega, h2⟩
 ·by_cases hm : i < m
  ·exact h.all i hm
  ·have : i = m := by omega
   subst this
   exact ⟨k - 1, by omega, by rw [hl, e]⟩
 ·rw [hl, Nat.add_sub_cancel, e]
theorem get_set_same (d : Array (El S w n)) (k : Nat) (x : El S w n) (h : k < d.size) : (d.setIfInBounds k x)[k]! = x := by
 rw [getElem!_pos (d.setIfInBounds k x) k (by simpa using h)]
 simp
theorem get_set_other (d : Array (El S w n)) (k j : Nat) (x : El S w n) (h : j ≠ k) : (d.setIfInBounds k x)[j]! = d[j]! := by
 by_cases hj : j < d.size
 ·rw [getElem!_pos (d.setIfInBounds k x) j (by simpa using hj), getElem!_pos d j hj, Array.getElem_setIfInBounds_ne hj (by omega)]
 ·rw [getElem!_neg (d.setIfInBounds k x) j (by simpa using hj), getElem!_neg d j hj]
theorem Comp.keep {d dk : Array (El S w n)} {m k : Nat} (h : Comp d dk m k) (hm : m < d.size) (hs : cmp d[m]!.f d[m - 1]!.f ≠ .lt) (he : cmp d[m]!.f d[m - 1]!.f ≠ .eq) : Comp d (dk.setIfInBounds k d[m]!) (m + 1) (k + 1) := by
 have hl := h.last
 have hp := h.pos
 have hle := h.le
 have hsz := h.size
 have hkd : k < dk.size := by omega
 have hgt : cmp d[m - 1]!.f d[m]!.f = .lt := by
  rw [cmp_swap d[m]!.f d[m - 1]!.f]
  generalize cmp d[m]!.f d[m - 1]!.f = o at hs he
  cases o <;> simp_all
 refine ⟨by simpa using hsz, by omega, by omega, fun j hj => ?_, fun i j hij hj => ?_, fun j hj => ?_, fun i hi => ?_, ?_⟩
 ·rw [get_set_other _ _ _ _ (by omega)]; exact h.high j (by omega)
 ·by_cases hjk : j = k
  ·subst hjk
   rw [get_set_same _ _ _ hkd, get_set_other _ _ _ _ (by omega)]
   by_cases hi : i = j - 1
   ·subst hi; rw [hl]; exact hgt
   ·have := h.rise i (j - 1) (by omega) (by omega)
    rw [hl] at this
    exact cmp_lt_trans this hgt
  ·rw [get_set_other _ _ _ _ hjk, get_set_other _ _ _ _ (by omega)]
   exact h.rise i j hij (by omega)
 ·by_cases hjk : j = k
  ·subst hjk
   exact ⟨m, by omega, by rw [get_set_same _ _ _ hkd]⟩
  ·obtain ⟨i, h1, h2⟩ := h.within j (by omega)
   exact ⟨i, by omega, by rw [get_set_other _ _ _ _ hjk]; exact h2⟩
 ·by_cases him : i = m
  ·subst him
   exact ⟨k, by omega, by rw [get_set_same _ _ _ hkd]⟩
  ·obtain ⟨j, h1, h2⟩ := h.all i (by omega)
   exact ⟨j, by omega, by rw [get_set_other _ _ _ _ (by omega)]; exact h2⟩
 ·rw [Nat.add_sub_cancel, Nat.add_sub_cancel, get_set_same _ _ _ hkd]
theorem set_self (d : Array (El S w n)) (m : Nat) : d.setIfInBounds m d[m]! = d := by
 apply Array.ext
 ·simp
 ·intro i h1 h2
  by_cases e : m = i
  ·subst e
   simp [getElem!_pos d m h2]
  ·rw [Array.getElem_setIfInBounds_ne h2 e]
theorem Comp.keep1 {d : Array (El S w n)} {m : Nat} (h : Comp d d m m) (hm : m < d.size) (hs : cmp d[m]!.f d[m - 1]!.f ≠ .lt) (he : cmp d[m]!.f d[m - 1]!.f ≠ .eq) : Comp d d (m + 1) (m + 1) := by
 have := h.keep hm hs he
 rwa [set_self] at this
theorem Comp.canon {d dk : Array (El S w n)} {k : Nat} (h : Comp d dk d.size k) {l : List Flt} (hl : ∀ x, x ∈ l ↔ ∃ i, i < d.size ∧ d[i]!.f = x) : (List.range k).map (fun j => dk[j]!.f) = canon l := by
 refine canon_of ?_ fun x => ?_
 ·refine List.pairwise_iff_getElem.2 fun i j hi hj hij => ?_
  simp only [List.length_map, List.length_range] at hi hj
  simp only [List.getElem_map, List.getElem_range]
  exact h.rise i j hij hj
 ·rw [hl]
  simp only [List.mem_map, List.mem_range]
  constructor
  ·rintro ⟨j, hj, rfl⟩
   obtain ⟨i, h1, h2⟩ := h.within j hj
   exact ⟨i, h1, h2.symm⟩
  ·rintro ⟨i, hi, rfl⟩
   obtain ⟨j, h1, h2⟩ := h.all i hi
   exact ⟨j, h1, h2⟩
theorem sorted_next {d : Array (El S w n)} (h : SortedIn (Go.Proofs.ltOf elCf) 0 d.size d) {m : Nat} (h0 : 0 < m) (hm : m < d.size) : cmp d[m]!.f d[m - 1]!.f ≠ .lt := by
 have := h (m - 1) m (Nat.zero_le _) (by omega) hm
 rw [el_lt] at this
 simpa using this
theorem mem_get {d : Array (El S w n)} (x : Flt) : (∃ i, i < d.size ∧ d[i]!.f = x) ↔ ∃ e ∈ d.toList, e.f = x := by
 constructor
 ·rintro ⟨i, hi, rfl⟩
  refine ⟨d[i]!, ?_, rfl⟩
  rw [getElem!_pos d i hi]
  simp
 ·rintro ⟨e, he, rfl⟩
  obtain ⟨i, hi, rfl⟩ := List.getElem_of_mem he
  have hi' : i < d.size := by simpa using hi
  exact ⟨i, hi', by rw [getElem!_pos d i hi']; simp⟩
theorem perm_mem {d d' : Array (El S w n)} (h : PermIn 0 d.size d d') (x : Flt) : (∃ i, i < d'.size ∧ d'[i]!.f = x) ↔ ∃ i, i < d.size ∧ d[i]!.f = x := by
 obtain ⟨h1, _, h3⟩ := h
 rw [mem_get, mem_get]
 have e1 : d'.extract 0 d.size = d' := by rw [← h1]; simp
 have e2 : d.extract 0 d.size = d := by simp
 rw [e1, e2] at h3
 constructor
 ·rintro ⟨e, he, rfl⟩; exact ⟨e, h3.mem_iff.1 he, rfl⟩
 ·rintro ⟨e, he, rfl⟩; exact ⟨e, h3.mem_iff.2 he, rfl⟩
end

section
variable {S : Nat → Prop} {w : World} {n : Nat}
theorem FAtS.cells9 {f : Flt} {v : Value} (h : FAtS S w n f v) : ∃ c : List Value, v = .agg c.toArray ∧ c.length = 9 ∧ ∀ u ∈ c, u.oneCell' = true := by
 obtain ⟨KA, kc, MA, mc, k, ks, ds, vl, st, ms, fn, rl, dn, _, rfl, _⟩ := FAtS.formF h
 exact ⟨_, rfl, rfl, by simp [Value.oneCell']⟩
theorem els_of {l : List Flt} {xs : List Value} (h : KidsS S w n l xs) (hm : ∀ f ∈ l, may f) {i : Nat} (hi : i < l.length) : ∃ e : El S w n, l[i]? = some e.f ∧ ∀ j, j < 9 → xs[i * 9 + j]? = e.c[j]? := by
 have hf := List.getElem?_eq_getElem hi
 obtain ⟨v, h1, h2⟩ := h i _ hf
 obtain ⟨c, rfl, h3, h4⟩ := FAtS.cells9 h1
 refine ⟨⟨_, c, h3, h4, h1, hm _ (List.getElem_mem hi)⟩, hf, fun j hj => ?_⟩
 have hc : c[j]? = some (c[j]'(by omega)) := List.getElem?_eq_getElem (by omega)
 rw [hc]
 exact h2 j _ (by rw [show (Value.agg c.toArray).cells = c.toArray from rfl]; simp)
theorem els {l : List Flt} {xs : List Value} (h : KidsS S w n l xs) (hm : ∀ f ∈ l, may f) (hx : xs.length = l.length * 9) (h0 : 0 < l.length) :
  ∃ (_ : Inhabited (El S w n)) (d : Array (El S w n)), d.size = l.length ∧ flatK El.c 9 d = xs.toArray ∧ ∀ x, x ∈ l ↔ ∃ i, i < d.size ∧ d[i]!.f = x := by
 obtain ⟨e0, _⟩ := els_of h hm h0
 letI : Inhabited (El S w n) := ⟨e0⟩
 obtain ⟨F, hF⟩ := Go.Deep.choose_lt (fun i hi => els_of h hm (i := i) hi)
 have hsz : ((Array.range l.length).map F).size = l.length := by simp
 have hget : ∀ i, i < l.length → ((Array.range l.length).map F)[i]! = F i := fun i hi => by
  rw [getElem!_pos ((Array.range l.length).map F) i (by simpa using hi)]; simp
 refine ⟨⟨e0⟩, (Array.range l.length).map F, hsz, ?_, fun x => ?_⟩
 ·refine ext_get! (by simp [hx]) fun t ht => ?_
  have ht' : t < l.length * 9 := by simpa using ht
  have hi : t / 9 < l.length := by omega
  rw [get_flatK _ _ _ _ (by rw [hsz]; exact ht'), hget _ hi]
  have := (hF _ hi).2 (t % 9) (Nat.mod_lt _ (by omega))
  rw [show t / 9 * 9 + t % 9 = t by omega, List.getElem?_eq_getElem (by omega), List.getElem?_eq_getElem (by rw [El.len]; omega)] at this
  injection this with this
  rw [getElem!_pos (F (t / 9)).c (t % 9) (by rw [El.len]; omega), getElem!_pos xs.toArray t (by simp; omega)]
  simpa using this.symm
 ·constructor
  ·intro hx
   obtain ⟨i, hi, rfl⟩ := List.getElem_of_mem hx
   refine ⟨i, by rw [hsz]; exact hi, ?_⟩
   rw [hget i hi]
   have := (hF i hi).1
   rw [List.getElem?_eq_getElem hi] at this
   injection this with this
   exact this.symm
  ·rintro ⟨i, hi, rfl⟩
   rw [hsz] at hi
   rw [hget i hi]
   exact List.mem_of_getElem? (hF i hi).1
end
end Go.FltLaw

namespace Go.Proofs.YtdkfmckbeagenaaGreatDoor
open Go.RowKit Go.FltLaw Go.Lib Go.RankLaw Go.Sort Go.Shelf

def EqLays {S : Nat → Prop} {w : World} {n : Nat} [Inhabited (El S w n)] (g size : Nat) : Prop :=
 ∀ (m : Nat) (os : Array Obj) (dk : Array (El S w n)), dk.size = size → ∀ x y : El S w n,
  Calls Tryz.prog 45 #[.agg x.c.toArray, .agg y.c.toArray] (sortWorldK El.c 9 w g 0 m dk os) fun e w' => e = .returned (.bool (num (cmp x.f y.f) == 0)) ∧ ∃ q os', w' = grow ((sortWorldK El.c 9 w g 0 m dk os).drewN q) os'
theorem El.form {S : Nat → Prop} {w : World} {n : Nat} (x : El S w n) : ∃ a0 a1 a2 a3 a4 a5 a6 a7 a8, x.c = [a0, a1, a2, a3, a4, a5, a6, a7, a8] := by
 have h := x.len
 generalize x.c = c at h
 match c, h with
 | [a0, a1, a2, a3, a4, a5, a6, a7, a8], _ => exact ⟨_, _, _, _, _, _, _, _, _, rfl⟩
theorem el_cells {S : Nat → Prop} {w : World} {n : Nat} [Inhabited (El S w n)] {g i : Nat} {d0 dk : Array (El S w n)} {m : Nat} {os : Array Obj} (hH : HoldsK El.c 9 w g 0 d0) (hg : g < w.heap.size) (hs : dk.size = d0.size) (hi : i < dk.size)
  {a0 a1 a2 a3 a4 a5 a6 a7 a8 : Value} (h : (dk[i]!).c = [a0, a1, a2, a3, a4, a5, a6, a7, a8]) (q : Nat) (os' : Array Obj) :
  ∀ c, c < 9 → (grow ((sortWorldK El.c 9 w g 0 m dk os).drewN q) os').cell? ⟨g, i * 9 + c, none⟩ = some ([a0, a1, a2, a3, a4, a5, a6, a7, a8][c]!) ∧ (grow ((sortWorldK El.c 9 w g 0 m dk os).drewN q) os').frozen? ⟨g, i * 9 + c, none⟩ = false := fun c hc => by
 have e := sortWorldK_grown_c El.c 9 w g 0 m q dk os os'
 rw [e]
 have := (holdsK_sortWorldK_c El.c 9 w g 0 d0 dk (m + q) (os ++ os') hH hg hs).cell hi hc
 rw [h, Nat.zero_add] at this
 exact this
abbrev zeroF9 : Array Value := #[.int .i8 0, .slice none 0 0, .string ⟨#[]⟩, .string ⟨#[]⟩, .string ⟨#[]⟩, .slice none 0 0, .string ⟨#[]⟩, .string ⟨#[]⟩, .bool false]
theorem descT : ∃ d, Tryz.prog.underlying 26 = some d ∧ d.isRow = true := ⟨_, Tryz.underlying26, rfl⟩
theorem sizeT : (Tryz.prog.info? 26).map (·.size) = some 9 := by kernel_rfl
theorem zeroT (w : World) : (zeroValue 26).run Tryz.prog w = .ok (.agg zeroF9) w := by kernel_rfl
section
variable {S : Nat → Prop} {w : World} {n : Nat} [Inhabited (El S w n)] {g i : Nat} {d0 dk : Array (El S w n)} {m : Nat} {os : Array Obj}
theorem el_all (hH : HoldsK El.c 9 w g 0 d0) (hg : g < w.heap.size) (hs : dk.size = d0.size) (t : Nat) (ht : t < dk.size * 9) : ((sortWorldK El.c 9 w g 0 m dk os).cell? ⟨g, t, none⟩).isSome = true ∧ (sortWorldK El.c 9 w g 0 m dk os).frozen? ⟨g, t, none⟩ = false := by
 have := (holdsK_sortWorldK_c El.c 9 w g 0 d0 dk m os hH hg hs) t (by rw [size_flatK]; exact ht)
 rw [Nat.zero_add] at this
 exact ⟨by rw [this.1]; rfl, this.2⟩
theorem el_there (hH : HoldsK El.c 9 w g 0 d0) (hg : g < w.heap.size) (hs : dk.size = d0.size) (hi : i < dk.size) : (sortWorldK El.c 9 w g 0 m dk os).there g (i * 9) 9 := fun j hj => el_all hH hg hs _ (by omega)
theorem el_range (hH : HoldsK El.c 9 w g 0 d0) (hg : g < w.heap.size) (hs : dk.size = d0.size) (hi : i < dk.size) {cs : List Value} (h : (dk[i]!).c = cs) : (sortWorldK El.c 9 w g 0 m dk os).rangeAt g (i * 9) cs := fun j v hv => by
 have hl : cs.length = 9 := by rw [← h]; exact El.len _
 have hj : j < 9 := by have := (List.getElem?_eq_some_iff.1 hv).1; omega
 have := (holdsK_sortWorldK_c El.c 9 w g 0 d0 dk m os hH hg hs).cell hi hj
 rw [h, Nat.zero_add] at this
 rw [this.1, getElem!_pos cs j (by omega)]
 rw [List.getElem?_eq_getElem (by omega)] at hv
 exact hv
end
section
variable {α : Type} [Inhabited α] (enc : α → List Value) (k : Nat)
theorem arr_set_other (d : Array α) (i j : Nat) (x : α) (h : j ≠ i) : (d.setIfInBounds i x)[j]! = d[j]! := by
 by_cases hj : j < d.size
 ·rw [getElem!_pos (d.setIfInBounds i x) j (by simpa using hj), getElem!_pos d j hj, Array.getElem_setIfInBounds_ne hj (by omega)]
 ·rw [getElem!_neg (d.setIfInBounds i x) j (by simpa using hj), getElem!_neg d j hj]
theorem setMany_one (hk : ∀ x, (enc x).length = k) (d : Array α) (i : Nat) (x : α) (hi : i < d.size) : setMany (flatK enc k d) (i * k) (enc x) = flatK enc k (d.setIfInBounds i x) := by
 refine ext_get! (by simp) fun t ht => ?_
 have ht' : t < d.size * k := by simpa using ht
 have k0 : 0 < k := by
  rcases Nat.eq_zero_or_pos k with h | h
  ·subst h; simp at ht'
  ·exact h
 rw [get_setMany _ _ _ t (by simpa using ht'), get_flatK _ _ _ t ht', get_flatK _ _ _ t (by simpa using ht'), hk]
 by_cases a : t / k = i
 ·rw [if_pos ((blk_iff k i t k0).2 a), a]
  have m : t - i * k = t % k := by subst a; rw [Nat.mod_eq_sub_div_mul]
  rw [m, getElem!_pos (d.setIfInBounds i x) i (by simpa using hi)]
  simp
 ·rw [if_neg (fun h => a ((blk_iff k i t k0).1 h)), arr_set_other _ _ _ _ a]
theorem elem_bound {k i n : Nat} (h : i < n) : i * k + k ≤ n * k := by
 have := Nat.mul_le_mul_right k (show i + 1 ≤ n from h)
 rwa [Nat.add_mul, Nat.one_mul] at this
theorem sortWorldK_one (hk : ∀ x, (enc x).length = k) (w : World) (blk m : Nat) (dk : Array α) (os : Array Obj) (hblk : blk < w.heap.size) (i : Nat) (x : α) (hi : i < dk.size) :
  (sortWorldK enc k w blk 0 m dk os).setCells blk (i * k) (enc x) = sortWorldK enc k w blk 0 m (dk.setIfInBounds i x) os := by
 unfold sortWorldK
 rw [setCells_grow os blk _ _ _ (by rw [size_putRowK]; exact hblk)]
 congr 1
 unfold putRowK
 have := setCells_putRow (Sort.ahead w m) blk 0 (enc x) (i * k) (flatK enc k dk) (by rw [hk, size_flatK]; exact elem_bound hi)
 rw [Nat.zero_add] at this
 rw [this, setMany_one enc k hk dk i x hi]
end
theorem num_eq0 {o : Ordering} : (num o == 0) = true ↔ o = .eq := by cases o <;> simp [num]
theorem num_ne0 {o : Ordering} : (num o == 0) = false ↔ o ≠ .eq := by cases o <;> simp [num]
theorem run_clear_k {P : Program} (w : World) (t e ty : TypeId) (z : Value) (size : Nat) (ht : P.underlying t = some (.slice e)) (hv : ∀ w, (zeroValue e).run P w = .ok z w) (hz : z.cells.size = size) (hs : 0 < size) (h1 : ∀ u ∈ z.cells, u.oneCell' = true) (b o n c : Nat) (hn : 0 < n)
  (hc : ∀ j, j < n * size → (w.cell? ⟨b, o + j, none⟩).isSome = true) (hf : ∀ j, j < n * size → w.frozen? ⟨b, o + j, none⟩ = false) :
  (Builtin.clear_ #[t] ty #[.slice (some ⟨b, o, none⟩) n c]).run P w = .ok (.tuple #[]) (w.setCells b o (Builtin.zeroCells z.cells n).toList) := by
 have hl : (Builtin.zeroCells z.cells n).toList.length = n * size := by simp [Builtin.zeroCells, hz]
 have hst := run_storeCells_cells (P := P) b o (Builtin.zeroCells z.cells n).toList 0 w (by rw [hl]; simpa using hc) (by rw [hl]; simpa using hf) (by
  intro v hv'
  simp only [Builtin.zeroCells, Array.toList_map, List.mem_map] at hv'
  obtain ⟨i, _, rfl⟩ := hv'
  have hm : i % z.cells.size < z.cells.size := Nat.mod_lt _ (by omega)
  rw [getElem!_pos z.cells _ hm]
  exact h1 _ (Array.getElem_mem hm))
 simp only [Nat.add_zero] at hst
 obtain ⟨m, rfl⟩ : ∃ m, n = m + 1 := ⟨n - 1, by omega⟩
 simp [Builtin.clear_, run_underlying ht, hv, hst]
set_option maxHeartbeats 1600000 in
set_option maxRecDepth 100000 in
theorem compact_p {S : Nat → Prop} {w : World} {n : Nat} [Inhabited (El S w n)] (g cap : Nat) (d d0 : Array (El S w n)) (m0 : Nat) (os0 : Array Obj) (hH : HoldsK El.c 9 w g 0 d0) (hs : d.size = d0.size) (hg : g < w.heap.size) (hpos : 0 < d.size) (hcap : d.size ≤ cap) (hc2 : cap ≤ maxLen) (hsz : d.size ≤ 65535)
  (hsort : SortedIn (ltOf elCf) 0 d.size d) (heq : EqLays (S := S) (w := w) (n := n) g d.size) :
  Calls Tryz.prog 44 #[.slice (some ⟨g, 0, none⟩) d.size cap, .func (.func 45) #[] #[]] (sortWorldK El.c 9 w g 0 m0 d os0) fun e w' =>
   ∃ (k : Nat) (dk : Array (El S w n)) (m : Nat) (os : Array Obj) (zs : List Value), e = .returned (.slice (some ⟨g, 0, none⟩) k cap) ∧ Comp d dk d.size k ∧ zs.length = (d.size - k) * 9 ∧ w' = (sortWorldK El.c 9 w g 0 m dk os).setCells g (k * 9) zs := by
 have hmx := l106.mixed
 have HS := Lib.hid hs
 have HQ := Lib.hid heq
 have HH := Lib.hid hH
 have HSO := Lib.hid hsort
 clear heq hH hsort hs
 by_cases h2 : d.size < 2
 ·go_enter Tryz.func44, Tryz.ntmps44
  go_wp2_with fail
  go_ret
  have e1 : d.size = 1 := by omega
  exact ⟨1, d, m0, os0, [], by rw [e1]; rfl, by rw [e1]; exact Comp.start d, by simp [e1], rfl⟩
 ·go_enter Tryz.func44, Tryz.ntmps44
  go_wp2_with fail
  go_loopg [5] d.size (fun g1 s5 wr => ∃ (k m : Nat) (os : Array Obj), 1 ≤ k ∧ k ≤ d.size ∧ d.size - k ≤ g1 ∧ s5 = .int .i64 k ∧ wr = sortWorldK El.c 9 w g 0 m d os ∧ RowKit.Hid (Comp d d k k))
  case atStart => exact ⟨1, m0, os0, Nat.le_refl _, by omega, by omega, rfl, rfl, Comp.start d⟩
  case round =>
   obtain ⟨k, m, os, hk1, hk, hg1, rfl, rfl, HC⟩ := hrel
   by_cases hlt : k < d.size
   ·obtain ⟨p, rfl⟩ : ∃ p, k = p + 1 := ⟨k - 1, by omega⟩
    obtain ⟨x, hx⟩ : ∃ x, d[p + 1]! = x := ⟨_, rfl⟩
    obtain ⟨y, hy⟩ : ∃ y, d[p]! = y := ⟨_, rfl⟩
    obtain ⟨a0, a1, a2, a3, a4, a5, a6, a7, a8, ha⟩ := El.form x
    obtain ⟨b0, b1, b2, b3, b4, b5, b6, b7, b8, hb⟩ := El.form y
    have hwp : IntKind.i64.wrap (p : Int) = (p : Int) := by rw [IntKind.wrap_i64]; omega
    have jz : (p : Int) + 1 < (d.size : Int) := by omega
    have jz1 : (p : Int) < (d.size : Int) := by omega
    have p0 : (0 : Int) ≤ (p : Int) + 1 := by omega
    have e0 : ((p : Int) + 1).toNat = p + 1 := by omega
    have ca := fun q os' => el_cells (m := m) (os := os) HH.out hg HS.out hlt (by rw [hx]; exact ha) q os'
    have cb := fun q os' => el_cells (m := m) (os := os) HH.out hg HS.out (i := p) (by omega) (by rw [hy]; exact hb) q os'
    have k0 := fun q os' => (ca q os' 0 (by omega)).1
    have k1 := fun q os' => (ca q os' 1 (by omega)).1
    have k2 := fun q os' => (ca q os' 2 (by omega)).1
    have k3 := fun q os' => (ca q os' 3 (by omega)).1
    have k4 := fun q os' => (ca q os' 4 (by omega)).1
    have k5 := fun q os' => (ca q os' 5 (by omega)).1
    have k6 := fun q os' => (ca q os' 6 (by omega)).1
    have k7 := fun q os' => (ca q os' 7 (by omega)).1
    have k8 := fun q os' => (ca q os' 8 (by omega)).1
    have l0 := fun q os' => (cb q os' 0 (by omega)).1
    have l1 := fun q os' => (cb q os' 1 (by omega)).1
    have l2 := fun q os' => (cb q os' 2 (by omega)).1
    have l3 := fun q os' => (cb q os' 3 (by omega)).1
    have l4 := fun q os' => (cb q os' 4 (by omega)).1
    have l5 := fun q os' => (cb q os' 5 (by omega)).1
    have l6 := fun q os' => (cb q os' 6 (by omega)).1
    have l7 := fun q os' => (cb q os' 7 (by omega)).1
    have l8 := fun q os' => (cb q os' 8 (by omega)).1
    have hcls : ∀ n' os', grow ((sortWorldK El.c 9 w g 0 m d os).drewN n') os' = sortWorldK El.c 9 w g 0 (m + n') d (os ++ os') := fun n' os' => sortWorldK_grown_c El.c 9 w g 0 m n' d os os'
    have hcg : ∀ n' os', Calls Tryz.prog 45 #[.agg #[a0, a1, a2, a3, a4, a5, a6, a7, a8], .agg #[b0, b1, b2, b3, b4, b5, b6, b7, b8]] (grow ((sortWorldK El.c 9 w g 0 m d os).drewN n') os') fun e w' => e = .returned (.bool (num (cmp x.f y.f) == 0)) ∧ ∃ q os'', w' = grow ((grow ((sortWorldK El.c 9 w g 0 m d os).drewN n') os').drewN q) os'' := fun n' os' => by
     rw [hcls]
     have := HQ.out (m + n') (os ++ os') d rfl x y
     rw [ha, hb] at this
     exact this
    have CLS := Lib.hid hcls
    simp only [List.getElem!_cons_zero, List.getElem!_cons_succ, Nat.add_zero] at k0 k1 k2 k3 k4 k5 k6 k7 k8 l0 l1 l2 l3 l4 l5 l6 l7 l8
    clear ca cb hcls
    generalize hwq : sortWorldK El.c 9 w g 0 m d os = wq at *
    obtain ⟨b, hbe⟩ : ∃ b, (num (cmp x.f y.f) == 0) = b := ⟨_, rfl⟩
    have HBE := Lib.hid hbe
    rw [hbe] at hcg
    clear hbe ha hb
    go_wp2_with fail
    go_quiet_grown (first | (go_at_call 45; refine Calls.grown_of (hcg _ _)))
    dsimp only
    have hw2 := CLS.out nq osq
    generalize grow (wq.drewN nq) osq = wq2 at hw2 ⊢
    subst hw2
    clear k0 k1 k2 k3 k4 k5 k6 k7 k8 l0 l1 l2 l3 l4 l5 l6 l7 l8 hcg CLS hwq
    cases b
    ·go_wp2_with fail
     go_roundg (d.size - (p + 1 + 1))
     case measure => omega
     case rel =>
      refine ⟨p + 1 + 1, m + nq, os ++ osq, by omega, by omega, Nat.le_refl _, by go_num, rfl, HC.keep1 hlt (sorted_next HSO.out (by omega) hlt) ?_⟩
      rw [hx, Nat.add_sub_cancel, hy]
      exact num_ne0.1 HBE.out
    ·have HC2 : RowKit.Hid (Comp d d (p + 1 + 1) (p + 1)) := Comp.skip HC (by rw [hx, Nat.add_sub_cancel, hy]; exact num_eq0.1 HBE.out)
     clear hx hy HBE x y
     go_wp2_with fail
     go_loopg [5, 7] d.size (fun g2 s5 s7 wr => ∃ (kk r m2 : Nat) (dk : Array (El S w n)) (os2 : Array Obj), s5 = .int .i64 kk ∧ s7 = .int .i64 ((r : Int) + 1) ∧ p + 1 + (r + 1) ≤ d.size ∧ kk < p + 1 + (r + 1) ∧ d.size - (p + 1 + (r + 1)) ≤ g2 ∧ wr = sortWorldK El.c 9 w g 0 m2 dk os2 ∧ RowKit.Hid (Comp d dk (p + 1 + (r + 1)) kk))
     case atStart => exact ⟨p + 1, 0, m + nq, d, os ++ osq, by go_num, by go_num, by omega, by omega, by omega, rfl, HC2⟩
     case round =>
      obtain ⟨kk, r, m2, dk, os2, rfl, rfl, hle, hkk, hg2, rfl, HD⟩ := hrel
      have hds : dk.size = d.size := HD.out.size
      by_cases hlt2 : p + 1 + (r + 1) < d.size
      ·obtain ⟨x, hx⟩ : ∃ x, dk[p + 1 + (r + 1)]! = x := ⟨_, rfl⟩
       obtain ⟨y, hy⟩ : ∃ y, dk[p + 1 + r]! = y := ⟨_, rfl⟩
       obtain ⟨a0, a1, a2, a3, a4, a5, a6, a7, a8, ha⟩ := El.form x
       obtain ⟨b0, b1, b2, b3, b4, b5, b6, b7, b8, hb⟩ := El.form y
       have hxd : d[p + 1 + (r + 1)]! = x := by rw [← HD.out.high _ (by omega)]; exact hx
       have hyd : d[p + 1 + (r + 1) - 1]! = y := by rw [← HD.out.high _ (by omega)]; exact hy
       have HXY := Lib.hid (And.intro hxd hyd)
       have HDS := Lib.hid hds
       have HA := Lib.hid ha
       have hwp : IntKind.i64.wrap (r : Int) = (r : Int) := by rw [IntKind.wrap_i64]; omega
       have jz : (r : Int) + 1 < ((d.size - (p + 1) : Nat) : Int) := by omega
       have jz1 : (r : Int) < ((d.size - (p + 1) : Nat) : Int) := by omega
       have p0 : (0 : Int) ≤ (r : Int) + 1 := by omega
       have e0 : ((r : Int) + 1).toNat = r + 1 := by omega
       have ca := fun q os' => el_cells (m := m2) (os := os2) HH.out hg (hds.trans HS.out) (i := p + 1 + (r + 1)) (by rw [hds]; exact hlt2) (by rw [hx]; exact ha) q os'
       have cb := fun q os' => el_cells (m := m2) (os := os2) HH.out hg (hds.trans HS.out) (i := p + 1 + r) (by rw [hds]; omega) (by rw [hy]; exact hb) q os'
       have k0 := fun q os' => (ca q os' 0 (by omega)).1
       have k1 := fun q os' => (ca q os' 1 (by omega)).1
       have k2 := fun q os' => (ca q os' 2 (by omega)).1
       have k3 := fun q os' => (ca q os' 3 (by omega)).1
       have k4 := fun q os' => (ca q os' 4 (by omega)).1
       have k5 := fun q os' => (ca q os' 5 (by omega)).1
       have k6 := fun q os' => (ca q os' 6 (by omega)).1
       have k7 := fun q os' => (ca q os' 7 (by omega)).1
       have k8 := fun q os' => (ca q os' 8 (by omega)).1
       have l0 := fun q os' => (cb q os' 0 (by omega)).1
       have l1 := fun q os' => (cb q os' 1 (by omega)).1
       have l2 := fun q os' => (cb q os' 2 (by omega)).1
       have l3 := fun q os' => (cb q os' 3 (by omega)).1
       have l4 := fun q os' => (cb q os' 4 (by omega)).1
       have l5 := fun q os' => (cb q os' 5 (by omega)).1
       have l6 := fun q os' => (cb q os' 6 (by omega)).1
       have l7 := fun q os' => (cb q os' 7 (by omega)).1
       have l8 := fun q os' => (cb q os' 8 (by omega)).1
       have hcls : ∀ n' os', grow ((sortWorldK El.c 9 w g 0 m2 dk os2).drewN n') os' = sortWorldK El.c 9 w g 0 (m2 + n') dk (os2 ++ os') := fun n' os' => sortWorldK_grown_c El.c 9 w g 0 m2 n' dk os2 os'
       have hcg : ∀ n' os', Calls Tryz.prog 45 #[.agg #[a0, a1, a2, a3, a4, a5, a6, a7, a8], .agg #[b0, b1, b2, b3, b4, b5, b6, b7, b8]] (grow ((sortWorldK El.c 9 w g 0 m2 dk os2).drewN n') os') fun e w' => e = .returned (.bool (num (cmp x.f y.f) == 0)) ∧ ∃ q os'', w' = grow ((grow ((sortWorldK El.c 9 w g 0 m2 dk os2).drewN n') os').drewN q) os'' := fun n' os' => by
        rw [hcls]
        have := HQ.out (m2 + n') (os2 ++ os') dk hds x y
        rw [ha, hb] at this
        exact this
       have CLS := Lib.hid hcls
       have ea : (p + 1 + (r + 1)) * 9 = (p + 1) * 9 + (r + 1) * 9 := Nat.add_mul _ _ _
       have eb : (p + 1 + r) * 9 = (p + 1) * 9 + r * 9 := Nat.add_mul _ _ _
       simp only [List.getElem!_cons_zero, List.getElem!_cons_succ, Nat.add_zero, ea] at k0 k1 k2 k3 k4 k5 k6 k7 k8
       simp only [List.getElem!_cons_zero, List.getElem!_cons_succ, Nat.add_zero, eb] at l0 l1 l2 l3 l4 l5 l6 l7 l8
       clear ea eb
       clear ca cb hcls
       generalize hwq : sortWorldK El.c 9 w g 0 m2 dk os2 = wq at *
       obtain ⟨b, hbe⟩ : ∃ b, (num (cmp x.f y.f) == 0) = b := ⟨_, rfl⟩
       have HBE := Lib.hid hbe
       rw [hbe] at hcg
       clear hbe ha hb hds hxd hyd
       go_wp2_with fail
       go_quiet_grown (first | (go_at_call 45; refine Calls.grown_of (hcg _ _)))
       dsimp only
       have hw2 := CLS.out nq osq
       generalize grow (wq.drewN nq) osq = wq2 at hw2 ⊢
       subst hw2
       clear k0 k1 k2 k3 k4 k5 k6 k7 k8 l0 l1 l2 l3 l4 l5 l6 l7 l8 hcg CLS hwq
       cases b
       ·have hk : Comp d (dk.setIfInBounds kk x) (p + 1 + (r + 1) + 1) (kk + 1) := by
         have := HD.out.keep hlt2 (sorted_next HSO.out (by omega) hlt2) (by rw [HXY.out.1, HXY.out.2]; exact num_ne0.1 HBE.out)
         rwa [HXY.out.1] at this
        have hrange : (sortWorldK El.c 9 w g 0 (m2 + nq) dk (os2 ++ osq)).rangeAt g ((p + 1) * 9 + (r + 1) * 9) [a0, a1, a2, a3, a4, a5, a6, a7, a8] := by
         rw [← Nat.add_mul]
         exact el_range HH.out hg (HDS.out.trans HS.out) (by rw [HDS.out]; exact hlt2) (by rw [hx]; exact HA.out)
        have hthere : (sortWorldK El.c 9 w g 0 (m2 + nq) dk (os2 ++ osq)).there g (kk * 9) 9 := el_there HH.out hg (HDS.out.trans HS.out) (by rw [HDS.out]; omega)
        have hworld : (sortWorldK El.c 9 w g 0 (m2 + nq) dk (os2 ++ osq)).setCells g (kk * 9) [a0, a1, a2, a3, a4, a5, a6, a7, a8] = sortWorldK El.c 9 w g 0 (m2 + nq) (dk.setIfInBounds kk x) (os2 ++ osq) := by
         rw [← HA.out]
         exact sortWorldK_one El.c 9 El.len w g _ dk _ hg kk x (by rw [HDS.out]; omega)
        have hone : (#[a0, a1, a2, a3, a4, a5, a6, a7, a8] : Array Value).all (·.oneCell') = true := all_oneCell_toArray (cs := [a0, a1, a2, a3, a4, a5, a6, a7, a8]) (by rw [← HA.out]; exact x.one)
        have HKP := Lib.hid hk
        have HRG := Lib.hid hrange
        have HTH := Lib.hid hthere
        have HWD := Lib.hid hworld
        have HON := Lib.hid hone
        clear hk hrange hthere hworld hone hx hy
        generalize sortWorldK El.c 9 w g 0 (m2 + nq) dk (os2 ++ osq) = wq at HRG HTH HWD ⊢
        obtain ⟨dT, hdT, hdR⟩ := descT
        have hinf := sizeT
        obtain ⟨w5, hw5⟩ : ∃ w5, wq.setCells g (kk * 9) (#[a0, a1, a2, a3, a4, a5, a6, a7, a8] : Array Value).toList = w5 := ⟨_, rfl⟩
        go_wp2_with (first
         | (refine wpList_load_mid rfl 26 (.tmp 54) rfl g ((p + 1) * 9 + (r + 1) * 9) rfl [a0, a1, a2, a3, a4, a5, a6, a7, a8] dT HRG.out hdT hdR hinf ?_)
         | (refine wpList_store_mid rfl 26 (.tmp 56) (.tmp 55) rfl g (kk * 9) #[a0, a1, a2, a3, a4, a5, a6, a7, a8] rfl rfl HTH.out hinf HON.out ?_; rw [hw5]))
        go_roundg (d.size - (p + 1 + (r + 1 + 1)))
        case measure => omega
        case rel =>
         have e5 : w5 = sortWorldK El.c 9 w g 0 (m2 + nq) (dk.setIfInBounds kk x) (os2 ++ osq) := hw5.symm.trans HWD.out
         refine ⟨kk + 1, r + 1, m2 + nq, dk.setIfInBounds kk x, os2 ++ osq, by go_num, by go_num, by omega, by omega, Nat.le_refl _, ?_, HKP.out⟩
         exact e5
       ·have hk : Comp d dk (p + 1 + (r + 1) + 1) kk := Comp.skip HD.out (by rw [HXY.out.1, HXY.out.2]; exact num_eq0.1 HBE.out)
        have HKP := Lib.hid hk
        clear hk
        go_wp2_with fail
        go_roundg (d.size - (p + 1 + (r + 1 + 1)))
        case measure => omega
        case rel => exact ⟨kk, r + 1, m2 + nq, dk, os2 ++ osq, rfl, by go_num, by omega, by omega, Nat.le_refl _, rfl, HKP.out⟩
      ·have hend : p + 1 + (r + 1) = d.size := by omega
       have hcl : ∀ ty, (Builtin.clear_ #[23] ty #[.slice (some ⟨g, kk * 9, none⟩) (d.size - kk) (cap - kk)]).run Tryz.prog (sortWorldK El.c 9 w g 0 m2 dk os2) = .ok (.tuple #[]) ((sortWorldK El.c 9 w g 0 m2 dk os2).setCells g (kk * 9) (Builtin.zeroCells (Value.agg zeroF9).cells (d.size - kk)).toList) :=
        fun ty => run_clear_k _ _ 26 ty (.agg zeroF9) 9 Tryz.underlying23 zeroT rfl (by omega) (by simp [Value.cells, Value.oneCell']) g (kk * 9) _ _ (by omega) (fun j hj => (el_all HH.out hg (hds.trans HS.out) _ (by omega)).1) (fun j hj => (el_all HH.out hg (hds.trans HS.out) _ (by omega)).2)
       have hzl : (Builtin.zeroCells (Value.agg zeroF9).cells (d.size - kk)).toList.length = (d.size - kk) * 9 := by simp [Builtin.zeroCells, Value.cells]
       have HZL := Lib.hid hzl
       have HDE := Lib.hid (show Comp d dk d.size kk by rw [← hend]; exact HD.out)
       clear hzl hds
       generalize (Builtin.zeroCells (Value.agg zeroF9).cells (d.size - kk)).toList = zs at hcl HZL
       generalize hwq : sortWorldK El.c 9 w g 0 m2 dk os2 = wq at hcl ⊢
       go_wp2_with fail
       go_ret
       exact ⟨kk, dk, m2, os2, zs, rfl, HDE.out, HZL.out, by rw [hwq]⟩
   ·have e : k = d.size := by omega
    subst e
    go_wp2_with fail
    go_ret
    exact ⟨d.size, d, m, os, [], rfl, HC.out, by simp, rfl⟩
end Go.Proofs.YtdkfmckbeagenaaGreatDoor
