/-
  Ranges over the function that Values hands back without a schema: Has; rosterlaw08.EntryNil.
-/
import Derived.RangeFuncNested
import Derived.RangeFuncBound
import Derived.RangeFuncCalls
import Derived.RangeFuncLeaves
import Derived.Shelf.Abstract
import Derived.Shelf.RegionOpen
import Derived.WalkKit
import Derived.OwnWalkIn
import Derived.TacticsInMore
import Derived.LoopNIn
import Derived.LoopIn
import Derived.Test.YtiiadibbkijnhaaGreatDoorQS4
namespace Go.Proofs.YtiiadibbkijnhaaGreatDoor
open Go.RowKit Go.Shelf Go.FltLaw Go.EntLaw Go.Lib Go.RankLaw
attribute [local go_sem] Oper.semAt_some

def encs0 : Empty → Array Value := fun x => x.elim

set_option maxHeartbeats 800000 in
set_option maxRecDepth 100000 in
/-- The function hands over nothing. -/
theorem vals_stops (B : Nat) (w : World) (hw : w.heap[B]? = some (.cells #[.slice none 0 0] 22 (0, 0))) :
    SeqStopsK Fence.wide 2 Tryz.prog 33 #[.pointer (some ⟨B, 0, none⟩)] encs0 (fun _ _ => True) (fun _ => True) (fun _ => False) 0 w := fun l J Jx W hW _ _ _ h0 => by
  have hc : W.cell? ⟨B, 0, none⟩ = some (.slice none 0 0) := (hW.cell (p := ⟨B, 0, none⟩) (Array.getElem?_eq_some_iff.1 hw).1).trans (cell_of_one hw)
  clear hw hW
  refine callsIn_of_wp Tryz.func33 rfl trivial ?_ rfl
  simp only [Tryz.ntmps33, List.size_toArray, List.length_cons, List.length_nil, Nat.reduceAdd, Nat.reduceSub, Array.replicate_succ, Array.replicate_zero, List.push_toArray, List.append_toArray, List.nil_append, List.cons_append]
  gi_wp2
  gi_loopw [9] (fun i wr => i = .int .i64 0 ∧ wr = W) (fun _ _ => 0)
  case atStart => exact ⟨rfl, rfl⟩
  case round =>
    obtain ⟨rfl, rfl⟩ := hrel
    gi_wp2
    go_end0
    exact ⟨⟨_, rfl⟩, .inl ⟨[], trivial, h0⟩⟩

theorem below_four (w : World) (o1 o2 o3 o4 : Obj) : Below w.heap.size w ((((w.alloc o1).alloc o2).alloc o3).alloc o4) := ((((Below.refl w.heap.size w).alloc (Nat.le_refl _) o1).alloc (by simp) o2).alloc (by simp; omega) o3).alloc (by simp; omega) o4
theorem fourth (w : World) (o1 o2 o3 : Obj) (cs : Array Value) (t : TypeId) : ((((w.alloc o1).alloc o2).alloc o3).alloc (.cells cs t)).heap[w.heap.size + 3]? = some (.cells cs t (0, 0)) := by
  have := heap_alloc_new (((w.alloc o1).alloc o2).alloc o3) (.cells cs t)
  simpa using this

set_option maxHeartbeats 1600000 in
set_option maxRecDepth 100000 in
theorem has_nil (l : List Atr) (KA : Option Addr) (kc : Nat) (d v : List UInt8) (w : World) (B : Nat) (hE : EAt w 0 B l KA kc) (hB : B ≤ w.heap.size) :
    Calls Tryz.prog 10 #[.pointer none, ent KA l.length kc, .string ⟨d.toArray⟩, .string ⟨v.toArray⟩] w fun e w' => e = .returned (.bool false) ∧ Below w.heap.size w w' := by
  have hE1 : ∀ o1 o2 o3 o4, EAt ((((w.alloc o1).alloc o2).alloc o3).alloc o4) 0 B l KA kc := fun o1 o2 o3 o4 => hE.below ((below_four w o1 o2 o3 o4).mono hB)
  have HE1 := Lib.hid hE1
  have hB1 : ∀ o1 o2 o3 o4, B ≤ ((((w.alloc o1).alloc o2).alloc o3).alloc o4).heap.size := fun o1 o2 o3 o4 => by simp; omega
  have HB1 := Lib.hid hB1
  clear hE hE1 hB1
  refine (callsIn_wide (n := 3)).1 ?_
  refine callsIn_of_wp_marks Tryz.func10 rfl trivial ?_ rfl
  simp only [Tryz.ntmps10, List.size_toArray, List.length_cons, List.length_nil, Nat.reduceAdd, Nat.reduceSub, Array.replicate_succ, Array.replicate_zero, List.push_toArray, List.append_toArray, List.nil_append, List.cons_append]
  gi_wp2_with (refine ⟨trivial, ?_⟩; gi_at_call 9; refine (callsIn_wide.2 (values_nil l KA kc d _ B (HE1.out _ _ _ _) (HB1.out _ _ _ _))).mono ?_; rintro e w2 ⟨rfl, hl2, hb2⟩)
  have hr2 := (hb2.block (w.heap.size + 3) (by simp)).trans (fourth w _ _ _ _ _)
  have hb0 := (below_four w (.cells #[.pointer none] 38) (.cells #[.slice KA l.length kc] 24) (.cells #[.string ⟨v.toArray⟩] 9) (.cells #[.bool false] 4)).trans (hb2.mono (by simp; omega))
  have hs2 := (Array.getElem?_eq_some_iff.1 hr2).1
  refine wpIn_rangeFunc_ownF rfl (by omega) (gf := 33) (lb := #[.pointer (some ⟨w.heap.size + 1 + 1 + 1 + 1 + 1, 0, none⟩)]) rfl trivial (enters_of Tryz.func33 (by kernel_rfl) rfl) (vals_stops _ w2 (by simpa using hl2))
    (fun _ _ => trivial) (fun _ _ _ _ _ _ _ _ => trivial) (Below.refl _ _) (fun x => x.elim) (fun _ W => Below w2.heap.size w2 W) (fun _ _ _ => False) (ownFrom_below (Nat.le_refl _) (Nat.le_refl _)) (fun _ _ _ _ _ hs _ _ => hs) (Below.refl _ _) (fun x => x.elim) (fun _ x => x.elim) (fun _ _ x => x.elim) ?done (fun _ _ _ _ _ h _ => h.elim)
  case done =>
    intro D xs W hD _ hW hK
    have hr3 := (hW.block (w.heap.size + 3) (by omega)).trans hr2
    have c3 := cell_of_one hr3
    have f3 := free_of_one hr3
    have hD2 : D ≠ w.heap.size + 3 := by omega
    have hK' : (W.setCell ⟨w.heap.size + 3, 0, none⟩ (.bool false)).heap[D]? = some (.deferred (some [])) := (Below.heap_setCell _ _ _ _ (by simpa using hD2)).trans hK
    have hres : ((W.setCell ⟨w.heap.size + 3, 0, none⟩ (.bool false)).putObj D (.deferred none)).cell? ⟨w.heap.size + 3, 0, none⟩ = some (.bool false) := by
      refine cell_of_one (t := 4) ?_
      show ((W.setCell ⟨w.heap.size + 3, 0, none⟩ (.bool false)).heap.setIfInBounds D (.deferred none))[w.heap.size + 3]? = some (.cells #[.bool false] 4 (0, 0))
      rw [Array.getElem?_setIfInBounds_ne hD2]
      exact one_setCell (u := .bool false) hr3
    have hbl : Below w.heap.size w ((W.setCell ⟨w.heap.size + 3, 0, none⟩ (.bool false)).putObj D (.deferred none)) := by
      refine (hb0.trans (hW.mono (by omega))).trans (((Below.refl _ W).setCell (p := ⟨w.heap.size + 3, 0, none⟩) (by simp) (.bool false)).trans ?_)
      exact belowK_b (w := w) (Nat.le_refl _) _ D _ _ (by omega) hK' rfl rfl
    gi_wp2
    refine ⟨by simp, .inl ⟨_, _, rfl, run_takeDeferred hK', ?_⟩⟩
    exact ⟨.bool false, by simp [results, Tryz.f10, go_sem, hres], rfl, hbl⟩

theorem equalIn_func {P : Program} {t : TypeId} {ps rs : Array TypeId} {v : Bool} (ht : P.underlying t = some (.func ps rs v)) (d : Nat) (f : Fn) (a c : Array Value) (w : World) : (Op.equalIn (d + 1) t (.func f a c) .nilFunc).run P w = .ok false w := by
  unfold Op.equalIn
  rw [Sem.run_bind, run_underlying ht]
  rfl
theorem eql_func {P : Program} {t : TypeId} {ps rs : Array TypeId} {v : Bool} (ht : P.underlying t = some (.func ps rs v)) (f : Fn) (a c : Array Value) (w : World) : (binOp .eql t (.func f a c) .nilFunc).run P w = .ok (.bool false) w := by
  have h : binOp .eql t (.func f a c) .nilFunc = (do pure (.bool (← Op.equal t (.func f a c) .nilFunc))) := rfl
  rw [h, Sem.run_bind]
  have h2 : (Op.equal t (.func f a c) .nilFunc).run P w = .ok false w := equalIn_func ht 9999 f a c w
  rw [h2]
  rfl
@[local go_sem] theorem eql_seq (f : Fn) (a c : Array Value) (w : World) : (binOp .eql 33 (.func f a c) .nilFunc).run Tryz.prog w = .ok (.bool false) w := eql_func Tryz.underlying33 f a c w

/-- The closed call answers true in whatever world in which what lay lies still. -/
def Works8 (W : World) : Prop := ∀ wr, Below W.heap.size W wr → Calls Tryz.prog 11 #[] wr fun e w' => e = .returned (.bool true) ∧ Below wr.heap.size wr w'

theorem second (w : World) (o1 : Obj) (cs : Array Value) (t : TypeId) : ((w.alloc o1).alloc (.cells cs t)).heap[w.heap.size + 1]? = some (.cells cs t (0, 0)) := by
  have := heap_alloc_new (w.alloc o1) (.cells cs t)
  simpa using this

theorem nil_below {w w1 w2 w3 w4 : World} (hb1 : Below w.heap.size w w1) (hz1 : w1.heap.size = w.heap.size + 2) (hb2 : Below w1.heap.size w1 w2) {o2 : Obj} (hb3 : Below (w2.alloc o2).heap.size (w2.alloc o2) w3) (hb4 : Below w3.heap.size w3 w4) (o o4 : Obj) (ho : o = o2 := by rfl) : Below w.heap.size w (w4.alloc o4) := by
  subst ho
  have h2 := hb2.size
  have h3 := hb3.size
  have h4 := hb4.size
  simp at h3
  exact ((((hb1.trans (hb2.mono (by omega))).alloc (by omega) o).trans (hb3.mono (by simp; omega))).trans (hb4.mono (by omega))).alloc (by omega) o4
theorem nil_facts {w w1 w2 w3 w4 w6 : World} {KA : Option Addr} {n kc : Nat} (hw1 : w1.heap[w.heap.size]? = some (.cells #[.slice KA n kc] 24 (0, 0))) (hr1 : w1.heap[w.heap.size + 1]? = some (.cells #[.bool false] 4 (0, 0))) (hz1 : w1.heap.size = w.heap.size + 2) (hb2 : Below w1.heap.size w1 w2)
    (hb3 : Below (w2.alloc (.cells #[.slice none 0 0] 24)).heap.size (w2.alloc (.cells #[.slice none 0 0] 24)) w3) (hb4 : Below w3.heap.size w3 w4) (hb6 : Below (w4.alloc (.cells #[.slice none 0 0] 24)).heap.size (w4.alloc (.cells #[.slice none 0 0] 24)) w6) :
    w6.heap[w.heap.size]? = some (.cells #[.slice KA n kc] 24 (0, 0)) ∧ w6.heap[w.heap.size + 1]? = some (.cells #[.bool false] 4 (0, 0)) ∧ w6.heap[w2.heap.size]? = some (.cells #[.slice none 0 0] 24 (0, 0)) ∧ w6.heap[w4.heap.size]? = some (.cells #[.slice none 0 0] 24 (0, 0)) := by
  have h2 := hb2.size
  have h3 := hb3.size
  have h4 := hb4.size
  have h6 := hb6.size
  simp at h3 h6
  have up : ∀ b, b < w2.heap.size + 1 → w6.heap[b]? = (w2.alloc (.cells #[.slice none 0 0] 24)).heap[b]? := fun b hb => by
    rw [hb6.block b (by simp; omega), Below.heap_alloc _ _ _ (by omega), hb4.block b (by omega), hb3.block b (by simp; omega)]
  have lo : ∀ b, b < w.heap.size + 2 → w6.heap[b]? = w1.heap[b]? := fun b hb => by
    rw [up b (by omega), Below.heap_alloc _ _ _ (by omega), hb2.block b (by omega)]
  refine ⟨(lo _ (by omega)).trans hw1, (lo _ (by omega)).trans hr1, (up _ (by omega)).trans (heap_alloc_new _ _), ?_⟩
  rw [hb6.block _ (by simp), heap_alloc_new]

set_option maxHeartbeats 3200000 in
set_option maxRecDepth 100000 in
theorem entryNil_walked (w : World) (HW : Works8 w) (l : List Atr) (KA : Option Addr) (kc : Nat) (mods : Value) (d : List UInt8) (B : Nat) (hE : EAt w 0 B l KA kc) (hB : B ≤ w.heap.size) :
    Calls Tryz.prog 3 #[ent KA l.length kc, mods, .string ⟨d.toArray⟩] w fun e w' => e = .returned (.bool true) ∧ Below w.heap.size w w' := by
  have HE := Lib.hid hE
  clear hE
  refine (callsIn_wide (n := 3)).1 ?_
  refine callsIn_of_wp_marks Tryz.func3 rfl trivial ?_ rfl
  simp only [Tryz.ntmps3, List.size_toArray, List.length_cons, List.length_nil, Nat.reduceAdd, Nat.reduceSub, Array.replicate_succ, Array.replicate_zero, List.push_toArray, List.append_toArray, List.nil_append, List.cons_append]
  have hw1 : (((w.alloc (.cells #[.slice KA l.length kc] 24)).alloc (.cells #[.bool false] 4))).heap[w.heap.size]? = some (.cells #[.slice KA l.length kc] 24 (0, 0)) := by rw [Below.heap_alloc _ _ _ (by simp), heap_alloc_new]
  have hr1 := second w (.cells #[.slice KA l.length kc] 24) #[.bool false] 4
  have hz1 : (((w.alloc (.cells #[.slice KA l.length kc] 24)).alloc (.cells #[.bool false] 4))).heap.size = w.heap.size + 2 := by simp
  have hb1 : Below w.heap.size w (((w.alloc (.cells #[.slice KA l.length kc] 24)).alloc (.cells #[.bool false] 4))) := ((Below.refl _ w).alloc (Nat.le_refl _) _).alloc (by simp) _
  have HW1 := Lib.hid hw1
  have HR1 := Lib.hid hr1
  have HZ1 := Lib.hid hz1
  have HB1 := Lib.hid hb1
  clear hw1 hr1 hz1 hb1
  gi_wp2_with (first
    | (refine ⟨trivial, ?_⟩; gi_at_call 6; refine (callsIn_wide.2 (tidy_nil _ _ _ _)).mono ?_; rintro e w2 ⟨rfl, hb2⟩; have HB2 := Lib.hid hb2; have hw2 := (hb2.block w.heap.size (by have := HZ1.out; omega)).trans HW1.out; have hz2 : w.heap.size + 2 ≤ w2.heap.size := (by have := HZ1.out; have := hb2.size; omega); have hw2' : ∀ o, (w2.alloc o).cell? ⟨w.heap.size, 0, none⟩ = some (.slice KA l.length kc) := (fun o => cell_of_one ((Below.heap_alloc _ _ _ (by omega)).trans hw2)); clear hb2 hw2)
    | (refine ⟨trivial, ?_⟩; gi_at_call 7; refine (callsIn_wide.2 (check_nil _ _ _ _)).mono ?_; rintro e w3 ⟨rfl, hb3⟩; have HB3 := Lib.hid hb3; have hz3 : w2.heap.size + 1 ≤ w3.heap.size := (by simpa using hb3.size); have hw3 : w3.cell? ⟨w.heap.size, 0, none⟩ = some (.slice KA l.length kc) := ((hb3.cell (p := ⟨w.heap.size, 0, none⟩) (by simp; omega)).trans (hw2' _)); clear hb3)
    | (refine ⟨trivial, ?_⟩; gi_at_call 8; refine (callsIn_wide.2 (apply_nil _ _ _ _ _)).mono ?_; rintro e w4 ⟨rfl, hb4⟩; have HB4 := Lib.hid hb4; have hz4 : w3.heap.size ≤ w4.heap.size := hb4.size; have hw4 : w4.cell? ⟨w.heap.size, 0, none⟩ = some (.slice KA l.length kc) := ((hb4.cell (p := ⟨w.heap.size, 0, none⟩) (by show w.heap.size < w3.heap.size; omega)).trans hw3); have hw4' : ∀ o, (w4.alloc o).cell? ⟨w.heap.size, 0, none⟩ = some (.slice KA l.length kc) := (fun o => (((Below.refl w4.heap.size w4).alloc (Nat.le_refl _) o).cell (p := ⟨w.heap.size, 0, none⟩) (by show w.heap.size < w4.heap.size; omega)).trans hw4); clear hb4)
    | (refine ⟨trivial, ?_⟩; gi_at_call 9; have hb5 := nil_below HB1.out HZ1.out HB2.out HB3.out HB4.out (.cells #[.slice none 0 0] 24) (.cells #[.slice none 0 0] 24); have HB5 := Lib.hid hb5; refine (callsIn_wide.2 (values_nil l KA kc d _ B (HE.out.below (hb5.mono hB)) (by simp; omega))).mono ?_; rintro e w6 ⟨rfl, hl6, hb6⟩; clear hb5))
  have H6 := nil_facts HW1.out HR1.out HZ1.out HB2.out HB3.out HB4.out hb6
  have hbw6 := HB5.out.trans (hb6.mono (by simp; omega))
  have hz6 : w4.heap.size + 1 ≤ w6.heap.size := by simpa using hb6.size
  refine wpIn_rangeFunc_ownF rfl (by omega) (gf := 33) (lb := #[.pointer (some ⟨w4.heap.size + 1 + 1, 0, none⟩)]) rfl trivial (enters_of Tryz.func33 (by kernel_rfl) rfl) (vals_stops _ w6 (by simpa using hl6))
    (fun _ _ => trivial) (fun _ _ _ _ _ _ _ _ => trivial) (Below.refl _ _) (fun x => x.elim) (fun _ W => Below w6.heap.size w6 W) (fun _ _ _ => False) (ownFrom_below (Nat.le_refl _) (Nat.le_refl _)) (fun _ _ _ _ _ hs _ _ => hs) (Below.refl _ _) (fun x => x.elim) (fun _ x => x.elim) (fun _ _ x => x.elim) ?done (fun _ _ _ _ _ h _ => h.elim)
  case done =>
    intro D xs W hD _ hW hK
    obtain ⟨f1, f2, f3, f4⟩ := H6
    have c1 : W.cell? ⟨w.heap.size, 0, none⟩ = some (.slice KA l.length kc) := cell_of_one ((hW.block _ (by omega)).trans f1)
    have f2' := (hW.block _ (by omega)).trans f2
    have c2 : W.cell? ⟨w2.heap.size, 0, none⟩ = some (.slice none 0 0) := cell_of_one ((hW.block _ (by omega)).trans f3)
    have c3 : W.cell? ⟨w4.heap.size, 0, none⟩ = some (.slice none 0 0) := cell_of_one ((hW.block _ (by omega)).trans f4)
    have hbW := hbw6.trans (hW.mono (by omega))
    have HBW := Lib.hid hbW
    have HF2 := Lib.hid f2'
    have hDW : D < W.heap.size := (Array.getElem?_eq_some_iff.1 hK).1
    have HK := Lib.hid hK
    clear HW1 HR1 HZ1 HB1 HB2 HB3 HB4 HB5 hb6 hl6 hbw6 f1 f2 f3 f4 f2' hW hbW hw2' hw3 hw4 hw4' hK
    gi_wp2_with (first
      | (refine ⟨trivial, ?_⟩; gi_at_call 10; refine (callsIn_wide.2 (has_nil l KA kc d [97] _ B (HE.out.below (HBW.out.mono hB)) (by omega))).mono ?_; rintro e w7 ⟨rfl, hb7⟩; have HB7 := Lib.hid hb7; clear hb7)
      | (refine ⟨trivial, ?_⟩; gi_at_call 11; refine (callsIn_wide.2 (HW _ (HBW.out.trans (HB7.out.mono (by omega))))).mono ?_; rintro e w8 ⟨rfl, hb8⟩; have HB8 := Lib.hid (HB7.out.trans (hb8.mono HB7.out.size)); have f8 := cell_of_one ((HB8.out.block _ (by omega)).trans HF2.out); have g8 := free_of_one ((HB8.out.block _ (by omega)).trans HF2.out); clear hb8))
    have hz8 := HB8.out.size
    have hD2 : D ≠ w.heap.size + 1 := by omega
    have hK' : (w8.setCell ⟨w.heap.size + 1, 0, none⟩ (.bool true)).heap[D]? = some (.deferred (some [])) := (Below.heap_setCell _ _ _ _ (by simpa using hD2)).trans ((HB8.out.block D hDW).trans HK.out)
    have hres : ((w8.setCell ⟨w.heap.size + 1, 0, none⟩ (.bool true)).putObj D (.deferred none)).cell? ⟨w.heap.size + 1, 0, none⟩ = some (.bool true) := by
      refine cell_of_one (t := 4) ?_
      show ((w8.setCell ⟨w.heap.size + 1, 0, none⟩ (.bool true)).heap.setIfInBounds D (.deferred none))[w.heap.size + 1]? = some (.cells #[.bool true] 4 (0, 0))
      rw [Array.getElem?_setIfInBounds_ne hD2]
      exact one_setCell (u := .bool true) ((HB8.out.block _ (by omega)).trans HF2.out)
    have hbl : Below w.heap.size w ((w8.setCell ⟨w.heap.size + 1, 0, none⟩ (.bool true)).putObj D (.deferred none)) := by
      refine (HBW.out.trans (HB8.out.mono (by omega))).trans (((Below.refl _ w8).setCell (p := ⟨w.heap.size + 1, 0, none⟩) (by simp) (.bool true)).trans ?_)
      exact belowK_b (w := w) (Nat.le_refl _) _ D _ _ (by omega) hK' rfl rfl
    refine ⟨by simp, .inl ⟨_, _, rfl, run_takeDeferred hK', ?_⟩⟩
    exact ⟨.bool true, by simp [results, Tryz.f3, go_sem, hres], rfl, hbl⟩
end Go.Proofs.YtiiadibbkijnhaaGreatDoor
