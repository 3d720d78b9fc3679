/-
  Layer 8 without a schema: Desc, Covers, made, Tidy, Check, Apply.
  entry.Values without a schema: a function that hands over nothing.
-/
import Derived.Test.YtiiadibbkijnhaaGreatDoorEntAt
import Derived.Test.YtiiadibbkijnhaaGreatDoorFltLent
import Derived.Test.YtiiadibbkijnhaaGreatDoorProg
import Derived.WalkKit
import Derived.Outline
import Derived.Lib.Hide
import Derived.OneCell
import Derived.Laws.Rows
import Derived.Laws.ResultCell
import Derived.RegionTactic
import Derived.Deep.Cut
import Derived.Deep.DeepCutAuto
namespace Go.Proofs.YtiiadibbkijnhaaGreatDoor
open Go.RowKit Go.FltLaw Go.EntLaw Go.Lib Go.RankLaw

set_option maxHeartbeats 800000 in
set_option maxRecDepth 100000 in
theorem desc_nil (d : List UInt8) (w : World) : Calls Tryz.prog 34 #[.pointer none, .string ⟨d.toArray⟩] w fun e w' => e = .returned (.tuple #[.int .i64 0, .slice none 0 0, .int .i64 1]) ∧ w' = w := by
  go_enter Tryz.func34, Tryz.ntmps34
  go_wp2_with fail
  (try simp only [Exit.inBlock, Exit.then])
  refine bodyPost_ret (results_tmp3 rfl _ _ _) rfl ?_
  exact ⟨rfl, rfl⟩

set_option maxHeartbeats 800000 in
set_option maxRecDepth 100000 in
theorem covers_nil (d e : List UInt8) (w : World) : Calls Tryz.prog 30 #[.pointer none, .string ⟨d.toArray⟩, .string ⟨e.toArray⟩] w fun e w' => e = .returned (.bool false) ∧ w' = w := by
  go_enter Tryz.func30, Tryz.ntmps30
  go_wp2_with (go_at_call 34; (with_reducible refine (desc_nil _ _).mono ?_); rintro e2 w2 ⟨rfl, rfl⟩)
  go_ret
  exact ⟨rfl, rfl⟩

set_option maxHeartbeats 800000 in
set_option maxRecDepth 100000 in
theorem made_nil (KA : Option Addr) (n kc : Nat) (w : World) : Calls Tryz.prog 24 #[.pointer none, ent KA n kc] w fun e w' => e = .returned (.tuple #[.map none, .int .i64 1, .int .i64 0]) ∧ Below w.heap.size w w' := by
  go_enter Tryz.func24, Tryz.ntmps24
  go_wp2
  go_step3
  go_wp2
  rw [Exit.noGoto_ret]
  refine bodyPost_ret (results_tmp3 rfl _ _ _) rfl ?_
  exact ⟨rfl, by repeat' (first | exact Below.refl _ _ | refine Below.alloc ?_ (by simp <;> omega) _)⟩

theorem results_ctt {fn : Func} {p t u : Tmp} {ty : TypeId} (h : fn.results = #[.cell p ty, .tmp t, .tmp u]) (tmps : Array Value) (P : Program) (w : World) (a : Addr) (x : Value)
    (hp : tmps.getD p undef = .pointer (some a)) (hx : (loadVar ty a).run P w = .ok x w) :
    (results fn tmps).run P w = .ok (.tuple #[x, tmps.getD t undef, tmps.getD u undef]) w := by
  have hp' : tmps[p]?.getD undef = .pointer (some a) := by simpa using hp
  simp only [results, h]
  simp [Result.andThen, asAddr, hp', hx]

theorem below_two {w w' : World} (o1 o2 : Obj) (h : Below ((w.alloc o1).alloc o2).heap.size ((w.alloc o1).alloc o2) w') : Below w.heap.size w w' :=
  (((Below.refl _ w).alloc (Nat.le_refl _) o1).alloc (by simp) o2).trans (h.mono (by simp; omega))

set_option maxHeartbeats 800000 in
set_option maxRecDepth 100000 in
theorem check_nil (KA : Option Addr) (n kc : Nat) (w : World) : Calls Tryz.prog 7 #[.pointer none, ent KA n kc] w fun e w' => e = .returned (.tuple #[.int .i64 1, .int .i64 0]) ∧ Below w.heap.size w w' := by
  go_enter Tryz.func7, Tryz.ntmps7
  go_wp2_with (go_at_call 24; (with_reducible refine (made_nil _ _ _ _).mono ?_); rintro e2 w2 ⟨rfl, hb2⟩; have HB2 := Lib.hid hb2; clear hb2)
  (try simp only [Exit.inBlock, Exit.then])
  refine bodyPost_ret (results_tmp2 rfl _ _ _) rfl ?_
  exact ⟨rfl, ((Below.refl _ w).alloc (Nat.le_refl _) _).trans (HB2.out.mono (by simp))⟩

theorem nil_row {w w2 : World} (o1 : Obj) (hb : Below ((w.alloc o1).alloc (.cells #[.slice none 0 0] 24)).heap.size ((w.alloc o1).alloc (.cells #[.slice none 0 0] 24)) w2) :
    w2.heap[w.heap.size + 1]? = some (.cells #[.slice none 0 0] 24 (0, 0)) :=
  (hb.block _ (by simp)).trans (heap_alloc2_new w _ _)
theorem below_row {B : Nat} (w : World) (g : Nat) (cs : Array Value) (h : B ≤ g) : Below B w (w.setRow g cs) := ⟨rfl, rfl, rfl, by simp, fun _ hk => setRow_other _ _ _ _ (by omega)⟩

set_option maxHeartbeats 800000 in
set_option maxRecDepth 100000 in
theorem tidy_nil (KA : Option Addr) (n kc : Nat) (w : World) : Calls Tryz.prog 6 #[.pointer none, ent KA n kc] w fun e w' => e = .returned (.tuple #[ent none 0 0, .int .i64 1, .int .i64 0]) ∧ Below w.heap.size w w' := by
  go_enter Tryz.func6, Tryz.ntmps6
  go_wp2_with (first
    | (go_at_call 24; (with_reducible refine (made_nil _ _ _ _).mono ?_); rintro e2 w2 ⟨rfl, hb2⟩; have HR2 := Lib.hid (nil_row _ hb2); have HB2 := Lib.hid (below_two _ _ hb2); clear hb2)
    | (refine wpList_store_row rfl 24 (.tmp 4) (.tmp 19) rfl (w.heap.size + 1) #[.slice none 0 0] rfl rfl 24 #[.slice none 0 0] HR2.out (by kernel_rfl) rfl (by simp [Value.oneCell']) ?_))
  (try simp only [Exit.inBlock, Exit.then])
  refine bodyPost_ret (results_ctt rfl _ _ _ ⟨w.heap.size + 1, 0, none⟩ (ent none 0 0) rfl ?_) rfl ⟨rfl, ?_⟩
  · exact run_loadVar_row _ _ 24 24 #[.slice none 0 0] (0, 0) _ (setRow_heap _ _ _ _ _ _ HR2.out) Tryz.underlying24 rfl (by kernel_rfl)
  · exact HB2.out.trans (below_row _ _ _ (by omega))

set_option maxHeartbeats 800000 in
set_option maxRecDepth 100000 in
theorem apply_nil (KA : Option Addr) (n kc : Nat) (v : Value) (w : World) : Calls Tryz.prog 8 #[.pointer none, ent KA n kc, v] w fun e w' => e = .returned (.tuple #[ent none 0 0, .int .i64 1, .int .i64 0]) ∧ Below w.heap.size w w' := by
  have HR := Lib.hid (fun o1 => nil_row (w := w) o1 (Below.refl _ _))
  go_enter Tryz.func8, Tryz.ntmps8
  go_wp2_with (refine wpList_store_row rfl 24 (.tmp 6) (.tmp 28) rfl (w.heap.size + 1) #[.slice none 0 0] rfl rfl 24 #[.slice none 0 0] (HR.out _) (by kernel_rfl) rfl (by simp [Value.oneCell']) ?_)
  (try simp only [Exit.inBlock, Exit.then])
  refine bodyPost_ret (results_ctt rfl _ _ _ ⟨w.heap.size + 1, 0, none⟩ (ent none 0 0) rfl ?_) rfl ⟨rfl, ?_⟩
  · exact run_loadVar_row _ _ 24 24 #[.slice none 0 0] (0, 0) _ (setRow_heap _ _ _ _ _ _ (HR.out _)) Tryz.underlying24 rfl (by kernel_rfl)
  · exact (((Below.refl _ w).alloc (Nat.le_refl _) _).alloc (by simp) _).trans (below_row _ _ _ (by omega))
end Go.Proofs.YtiiadibbkijnhaaGreatDoor

namespace Go.Proofs.YtiiadibbkijnhaaGreatDoor
open Go.RowKit Go.FltLaw Go.EntLaw Go.Lib Go.RankLaw

/-- Where Values stands in its loop. -/
structure ValsAt (w wr : World) (KA : Option Addr) (n kc : Nat) : Prop where
  below : Below w.heap.size w wr
  eb : wr.heap[w.heap.size]? = some (.cells #[.slice KA n kc] 24 (0, 0))
  lb : wr.heap[w.heap.size + 1]? = some (.cells #[.slice none 0 0] 22 (0, 0))
theorem ValsAt.start (w : World) (KA : Option Addr) (n kc : Nat) : ValsAt w ((w.alloc (.cells #[.slice KA n kc] 24)).alloc (.cells #[.slice none 0 0] 22)) KA n kc := by
  refine ⟨((Below.refl _ _).alloc (Nat.le_refl _) _).alloc (by simp) _, ?_, heap_alloc2_new w _ _⟩
  rw [Below.heap_alloc _ _ _ (by simp), heap_alloc_new]
theorem ValsAt.size {w wr : World} {KA : Option Addr} {n kc : Nat} (h : ValsAt w wr KA n kc) : w.heap.size + 2 ≤ wr.heap.size := by
  have := (Array.getElem?_eq_some_iff.1 h.lb).1
  omega
theorem ValsAt.alloc {w wr : World} {KA : Option Addr} {n kc : Nat} (h : ValsAt w wr KA n kc) (o : Obj) : ValsAt w (wr.alloc o) KA n kc := by
  have hs := h.size
  exact ⟨h.below.alloc (by omega) o, (Below.heap_alloc _ _ _ (by omega)).trans h.eb, (Below.heap_alloc _ _ _ (by omega)).trans h.lb⟩

set_option maxHeartbeats 1600000 in
set_option maxRecDepth 100000 in
theorem values_nil (l : List Atr) (KA : Option Addr) (kc : Nat) (d : List UInt8) (w : World) (B : Nat) (hE : EAt w 0 B l KA kc) (hB : B ≤ w.heap.size) :
    Calls Tryz.prog 9 #[.pointer none, ent KA l.length kc, .string ⟨d.toArray⟩] w fun e w' =>
      e = .returned (.func (.func 33) #[] #[.pointer (some ⟨w.heap.size + 1, 0, none⟩)]) ∧ w'.heap[w.heap.size + 1]? = some (.cells #[.slice none 0 0] 22 (0, 0)) ∧ Below w.heap.size w w' := by
  have HE := Lib.hid hE
  have hc0 := hE.c0
  have hc1 := hE.c1
  have hn1 := hE.n1
  clear hE
  go_enter Tryz.func9, Tryz.ntmps9
  go_wp2_with fail
  go_loopw [15] (fun i wr => ∃ (j : Nat), j ≤ l.length ∧ i = .int .i64 j ∧ ValsAt w wr KA l.length kc) (fun i _ => l.length - (RowKit.intOf i).toNat)
  case atStart => exact ⟨0, Nat.zero_le _, rfl, ValsAt.start _ _ _ _⟩
  case round =>
    obtain ⟨j, hj, rfl, hV⟩ := hrel
    have HV := Lib.hid hV
    have hsz := hV.size
    by_cases hlt : j < l.length
    · obtain ⟨ad, rfl, _, hadB, hel⟩ := HE.out.at_ (by omega)
      have hke := List.getElem?_eq_getElem hlt
      generalize l[j] = q at hke
      obtain ⟨_, A, c, _, h0, h1⟩ := hel j _ hke
      obtain ⟨g0, g1⟩ := two_at (w := wr) (m := j * 2) (((hV.below.mono hB).cell (p := ad.add (j * 2)) (by rw [RankLaw.add_block]; exact hadB)).trans h0) (((hV.below.mono hB).cell (p := ad.add (j * 2 + 1)) (by rw [RankLaw.add_block]; exact hadB)).trans h1)
      unfold txt at g0
      clear hel h0 h1 hke hV
      go_wp2_with (go_at_call 30; (with_reducible refine (covers_nil _ _ _).mono ?_); rintro e2 w2 ⟨rfl, rfl⟩)
      go_round
      case rel => exact ⟨j + 1, by omega, by go_num, HV.out.alloc _⟩
      case measure => simp [RowKit.intOf]; omega
    · have ej : j = l.length := by omega
      subst ej
      clear hV
      go_wp2_with fail
      go_ret
      exact ⟨rfl, HV.out.lb, HV.out.below⟩
end Go.Proofs.YtiiadibbkijnhaaGreatDoor
