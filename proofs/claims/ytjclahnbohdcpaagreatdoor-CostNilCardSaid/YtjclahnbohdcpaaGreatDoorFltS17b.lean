/-
  rosterlaw17.CostNil, walked (but for its closed call).
-/
import Derived.Test.YtjclahnbohdcpaaGreatDoorFltS17
import Derived.Deep.RegionHeld3
namespace Go.Proofs.YtjclahnbohdcpaaGreatDoor
open Go.RowKit Go.FltLaw Go.Lib Go.RankLaw

theorem results_ct17 {P : Program} {fn : Func} {p u : Tmp} {ty : TypeId} (h : fn.results = #[.cell p ty, .tmp u]) (tmps : Array Value) (w : World) (g : Nat) (t : TypeId) (cs : Array Value) (fr : Nat × Nat) (d : TypeDesc)
    (hp : tmps.getD p undef = .pointer (some ⟨g, 0, none⟩)) (hg : w.heap[g]? = some (.cells cs t fr)) (hu : P.underlying ty = some d) (hd : (match d with | .struct _ | .array _ _ => true | _ => false) = true) (hi : (P.info? ty).map (·.size) = some cs.size) :
    (results fn tmps).run P w = .ok (.tuple #[.agg cs, tmps.getD u undef]) w := by
  have h1 := run_loadVar_row (P := P) w g t ty cs fr d hg hu hd hi
  have hp' : tmps[p]?.getD undef = .pointer (some ⟨g, 0, none⟩) := by simpa using hp
  simp only [results, h]
  simp [Result.andThen, asAddr, hp', h1]

/-- The fifteen cells of a plan of nothing. -/
abbrev zero15 : Array Value := #[.int .i8 0, .int .i8 0, .int .i64 0, .string ⟨#[]⟩, .slice none 0 0, .int .i8 0, .slice none 0 0, .string ⟨#[]⟩, .string ⟨#[]⟩, .string ⟨#[]⟩, .slice none 0 0, .string ⟨#[]⟩, .string ⟨#[]⟩, .bool false, .slice none 0 0]
set_option maxHeartbeats 800000 in
set_option maxRecDepth 100000 in
theorem plan_nil (v c g : Value) (a : Nat) (w : World) (hv : ∃ (k : Int) (KA : Option Addr) (kn kc : Nat) (ds vl st : List UInt8) (MA : Option Addr) (mn mc : Nat) (fn rl : List UInt8) (dn : Bool),
      v = .agg #[.int .i8 k, .slice KA kn kc, .string ⟨ds.toArray⟩, .string ⟨vl.toArray⟩, .string ⟨st.toArray⟩, .slice MA mn mc, .string ⟨fn.toArray⟩, .string ⟨rl.toArray⟩, .bool dn]) :
    Calls Tryz.prog 8 #[.pointer none, v, c, g, .float .f64 a] w fun e w' => e = .returned (.tuple #[.agg zero15, .int .i64 1]) ∧ Below w.heap.size w w' := by
  obtain ⟨k2, A2, m2, c2', s2, s3, s4, A5, m5, q5, s6, s7, x8, rfl⟩ := hv
  have hb := fun o o' => ((Below.refl w.heap.size w).alloc (Nat.le_refl _) o).alloc (by simp) o'
  have HB := Lib.hid hb
  have h2 := fun o => heap_alloc2_new w o (.cells zero15 40)
  have H2 := Lib.hid h2
  clear hb h2
  go_enter Tryz.func8, Tryz.ntmps8
  go_wp2_with (refine wpList_store_row rfl 40 (.tmp 10) (.tmp 18) rfl (w.heap.size + 1) zero15 rfl rfl 40 zero15 (H2.out _) (by kernel_rfl) rfl (by simp [Value.oneCell']) ?_)
  (try simp only [Exit.inBlock, Exit.then])
  refine bodyPost_ret (results_ct17 rfl _ _ (w.heap.size + 1) 40 _ (0, 0) _ rfl (setRow_heap _ _ _ _ _ _ (H2.out _)) Tryz.underlying40 rfl (by kernel_rfl)) rfl ?_
  exact ⟨rfl, (HB.out _ _).trans ⟨rfl, rfl, rfl, by simp, fun b hb => setRow_other _ _ _ _ (by omega)⟩⟩

set_option maxHeartbeats 800000 in
set_option maxRecDepth 100000 in
theorem can_any (c : Int) (ix : Bool) (A : Option Addr) (n m : Nat) (a : Nat) (nc ng : Bool) (w : World) :
    Calls Tryz.prog 9 #[.agg #[.int .u64 c, .bool ix, .slice A n m, .float .f64 a, .bool nc, .bool ng], .pointer none] w fun e w' => ∃ v, e = .returned v ∧ Below w.heap.size w w' := by
  cases nc
  · go_enter Tryz.func9, Tryz.ntmps9
    go_wp2_with fail
    go_ret
    exact ⟨_, rfl, by repeat' (first | exact Below.refl _ _ | refine Below.alloc ?_ (by simp <;> omega) _)⟩
  · go_enter Tryz.func9, Tryz.ntmps9
    go_wp2_with fail
    go_ret
    exact ⟨_, rfl, by repeat' (first | exact Below.refl _ _ | refine Below.alloc ?_ (by simp <;> omega) _)⟩
set_option maxHeartbeats 800000 in
set_option maxRecDepth 100000 in
theorem guess_any (c : Int) (ix : Bool) (A : Option Addr) (n m : Nat) (a : Nat) (nc ng : Bool) (w : World) :
    Calls Tryz.prog 10 #[.agg #[.int .u64 c, .bool ix, .slice A n m, .float .f64 a, .bool nc, .bool ng]] w fun e w' => ∃ v, e = .returned v ∧ Below w.heap.size w w' := by
  cases ng
  · go_enter Tryz.func10, Tryz.ntmps10
    go_wp2_with fail
    go_ret
    exact ⟨_, rfl, by repeat' (first | exact Below.refl _ _ | refine Below.alloc ?_ (by simp <;> omega) _)⟩
  · go_enter Tryz.func10, Tryz.ntmps10
    go_wp2_with fail
    go_ret
    exact ⟨_, rfl, by repeat' (first | exact Below.refl _ _ | refine Below.alloc ?_ (by simp <;> omega) _)⟩

/-- The closed call answers true wherever nothing below has turned. -/
abbrev Works17 (W : World) : Prop := ∀ w : World, Below W.heap.size W w → Calls Tryz.prog 6 #[] w fun e w' => e = .returned (.bool true) ∧ Below w.heap.size w w'
/-- The two parameters and the fetch lie in blocks. -/
structure Bx (w wr : World) (bf bm : Array Value) : Prop where
  below : Below w.heap.size w wr
  fb : wr.heap[w.heap.size]? = some (.cells bf 26 (0, 0))
  mb : wr.heap[w.heap.size + 1]? = some (.cells bm 31 (0, 0))
theorem Bx.size {w wr : World} {bf bm : Array Value} (h : Bx w wr bf bm) : w.heap.size + 2 ≤ wr.heap.size := by
  have := (Array.getElem?_eq_some_iff.1 h.mb).1
  omega
theorem bx_start (w : World) (bf bm : Array Value) : Bx w ((w.alloc (.cells bf 26)).alloc (.cells bm 31)) bf bm :=
  ⟨((Below.refl _ _).alloc (Nat.le_refl _) _).alloc (by simp) _, heap_alloc2_old _ _ _, heap_alloc2_new _ _ _⟩
theorem Bx.later {w wr w2 : World} {bf bm : Array Value} (h : Bx w wr bf bm) (hb : Below wr.heap.size wr w2) : Bx w w2 bf bm := by
  have := h.size
  exact ⟨h.below.trans (hb.mono (by omega)), by rw [hb.block _ (by omega)]; exact h.fb, by rw [hb.block _ (by omega)]; exact h.mb⟩
theorem Bx.alloc {w wr : World} {bf bm : Array Value} (h : Bx w wr bf bm) (o : Obj) : Bx w (wr.alloc o) bf bm := h.later ((Below.refl _ _).alloc (Nat.le_refl _) o)
theorem Bx.drew {w wr : World} {bf bm : Array Value} (h : Bx w wr bf bm) : Bx w wr.drew bf bm := ⟨h.below.drew, h.fb, h.mb⟩
theorem bx_set {w wr : World} {bf : Array Value} {m0 m1 m2 m3 m4 m5 u : Value} (h : Bx w wr bf #[m0, m1, m2, m3, m4, m5]) : Bx w (wr.setCell ⟨w.heap.size + 1, 1, none⟩ u) bf #[m0, u, m2, m3, m4, m5] := by
  refine ⟨h.below.setCell (p := ⟨w.heap.size + 1, 1, none⟩) (by simp) _, ?_, ?_⟩
  · rw [Below.heap_setCell _ _ _ _ (by simp)]; exact h.fb
  · have := heap_setCell_same wr (w.heap.size + 1) 1 _ _ u h.mb
    simpa using this
theorem bx_free {w wr : World} {bf bm : Array Value} (h : Bx w wr bf bm) : wr.frozen? ⟨w.heap.size + 1, 1, none⟩ = false := by simp [World.frozen?, h.mb]
theorem later_of {wb w5 w6 : World} {C : Prop} (h : Below wb.heap.size wb w5 ∧ C) (hb : Below w5.heap.size w5 w6) : Below wb.heap.size wb w6 := h.1.trans (hb.mono h.1.size)
theorem alloc_of {wb w5 : World} {C : Prop} (h : Below wb.heap.size wb w5 ∧ C) (o : Obj) : Below wb.heap.size wb (w5.alloc o) := h.1.alloc h.1.size o
theorem alloc_at {wb w5 : World} (h : Below wb.heap.size wb w5) (o : Obj) : Below wb.heap.size wb (w5.alloc o) := h.alloc h.size o
theorem Bx.cells {w wr : World} {b0 b1 b2 b3 b4 b5 b6 b7 b8 m0 m1 m2 m3 m4 m5 : Value} (h : Bx w wr #[b0, b1, b2, b3, b4, b5, b6, b7, b8] #[m0, m1, m2, m3, m4, m5]) :
    (wr.cell? ⟨w.heap.size, 0, none⟩ = some b0 ∧ wr.cell? ⟨w.heap.size, 1, none⟩ = some b1 ∧ wr.cell? ⟨w.heap.size, 2, none⟩ = some b2 ∧ wr.cell? ⟨w.heap.size, 3, none⟩ = some b3 ∧ wr.cell? ⟨w.heap.size, 4, none⟩ = some b4 ∧ wr.cell? ⟨w.heap.size, 5, none⟩ = some b5 ∧
      wr.cell? ⟨w.heap.size, 6, none⟩ = some b6 ∧ wr.cell? ⟨w.heap.size, 7, none⟩ = some b7 ∧ wr.cell? ⟨w.heap.size, 8, none⟩ = some b8) ∧
    wr.cell? ⟨w.heap.size + 1, 0, none⟩ = some m0 ∧ wr.cell? ⟨w.heap.size + 1, 1, none⟩ = some m1 ∧ wr.cell? ⟨w.heap.size + 1, 2, none⟩ = some m2 ∧ wr.cell? ⟨w.heap.size + 1, 3, none⟩ = some m3 ∧ wr.cell? ⟨w.heap.size + 1, 4, none⟩ = some m4 ∧ wr.cell? ⟨w.heap.size + 1, 5, none⟩ = some m5 := by
  simp [World.cell?, h.fb, h.mb]
theorem drew_new (w : World) (o : Obj) : (w.drew.alloc o).heap[w.heap.size]? = some o := heap_alloc_new w.drew o
theorem heap_later {w w' : World} {b B : Nat} {o : Obj} (h : w.heap[b]? = some o) (hb : Below B w w') (hB : b < B) : w'.heap[b]? = some o := (hb.block b hB).trans h
theorem store_zero {w : World} {b : Nat} {t : TypeId} {cs : List Value} (h : w.heap[b]? = some (.cells zero15 t (0, 0))) (hc : cs = zero15.toList) : Sem.run Tryz.prog (storeCells ⟨b, 0, none⟩ cs 0) w = .ok () (w.setCells b 0 cs) := by
  have hl : cs.length = 15 := by rw [hc]; rfl
  refine run_storeCells_cells (P := Tryz.prog) b 0 cs 0 w (fun j hj => ?_) (fun j hj => ?_) (fun v hv => ?_)
  · have hj' : j < 15 := by omega
    have hz : zero15[j]? = some zero15[j] := Array.getElem?_eq_getElem hj'
    unfold World.cell?
    simp only [h, Nat.zero_add, hz]
    rfl
  · unfold World.frozen?
    simp only [h]
    simp
  · rw [hc] at hv
    revert v
    decide
theorem plan_facts {w : World} {b : Nat} {t : TypeId} {cs : List Value} (h : w.heap[b]? = some (.cells zero15 t (0, 0))) (hc : cs = zero15.toList) :
    (w.setCells b 0 cs).cell? ⟨b, 0, none⟩ = some (.int .i8 0) ∧ (w.setCells b 0 cs).cell? ⟨b, 1, none⟩ = some (.int .i8 0) ∧ (w.setCells b 0 cs).cell? ⟨b, 2, none⟩ = some (.int .i64 0) ∧ (w.setCells b 0 cs).cell? ⟨b, 3, none⟩ = some (.string ⟨#[]⟩) ∧ (w.setCells b 0 cs).cell? ⟨b, 4, none⟩ = some (.slice none 0 0) ∧
      (w.setCells b 0 cs).cell? ⟨b, 5, none⟩ = some (.int .i8 0) ∧ (w.setCells b 0 cs).cell? ⟨b, 6, none⟩ = some (.slice none 0 0) ∧ (w.setCells b 0 cs).cell? ⟨b, 7, none⟩ = some (.string ⟨#[]⟩) ∧ (w.setCells b 0 cs).cell? ⟨b, 8, none⟩ = some (.string ⟨#[]⟩) ∧ (w.setCells b 0 cs).cell? ⟨b, 9, none⟩ = some (.string ⟨#[]⟩) ∧
      (w.setCells b 0 cs).cell? ⟨b, 10, none⟩ = some (.slice none 0 0) ∧ (w.setCells b 0 cs).cell? ⟨b, 11, none⟩ = some (.string ⟨#[]⟩) ∧ (w.setCells b 0 cs).cell? ⟨b, 12, none⟩ = some (.string ⟨#[]⟩) ∧ (w.setCells b 0 cs).cell? ⟨b, 13, none⟩ = some (.bool false) ∧ (w.setCells b 0 cs).cell? ⟨b, 14, none⟩ = some (.slice none 0 0) := by
  have hl : cs.length = 15 := by rw [hc]; rfl
  have key : ∀ j (hj : j < cs.length), (w.setCells b 0 cs).cell? ⟨b, 0 + j, none⟩ = some cs[j] := World.cell?_setCells_in b cs 0 w fun j hj => by
    have hz : zero15[j]? = some zero15[j] := Array.getElem?_eq_getElem (show j < 15 by omega)
    unfold World.cell?
    simp only [h, Nat.zero_add, hz]
    rfl
  subst hc
  exact ⟨key 0 (by decide), key 1 (by decide), key 2 (by decide), key 3 (by decide), key 4 (by decide), key 5 (by decide), key 6 (by decide), key 7 (by decide), key 8 (by decide), key 9 (by decide), key 10 (by decide), key 11 (by decide), key 12 (by decide), key 13 (by decide), key 14 (by decide)⟩
theorem four_cells {w : World} {b : Nat} {t : TypeId} {fr : Nat × Nat} (h : w.heap[b]? = some (.cells zero4 t fr)) : w.cell? ⟨b, 0, none⟩ = some zero4[0] ∧ w.cell? ⟨b, 1, none⟩ = some zero4[1] ∧ w.cell? ⟨b, 2, none⟩ = some zero4[2] ∧ w.cell? ⟨b, 3, none⟩ = some zero4[3] := by
  simp [World.cell?, h]
theorem cells_heap (b : Nat) : ∀ (vs : List Value) (o : Nat) (w : World) {c : Nat}, c ≠ b → (w.setCells b o vs).heap[c]? = w.heap[c]?
  | [], _, _, _, _ => rfl
  | v :: r, o, w, c, h => by
    rw [World.setCells, cells_heap b r (o + 1) _ h, Below.heap_setCell _ _ _ _ (by simpa using h)]
theorem cells_keeps (b : Nat) : ∀ (vs : List Value) (o : Nat) (w : World), (w.setCells b o vs).os = w.os ∧ (w.setCells b o vs).tape = w.tape ∧ (w.setCells b o vs).output = w.output ∧ (w.setCells b o vs).heap.size = w.heap.size
  | [], _, _ => ⟨rfl, rfl, rfl, rfl⟩
  | v :: r, o, w => by
    rw [World.setCells]
    have := cells_keeps b r (o + 1) (w.setCell ⟨b, o, none⟩ v)
    refine ⟨this.1, this.2.1, this.2.2.1, this.2.2.2.trans (by simp [World.setCell])⟩
theorem below_cells {wb w : World} {B b : Nat} {vs : List Value} (h : Below B wb w) (hb : B ≤ b) : Below B wb (w.setCells b 0 vs) := by
  obtain ⟨h1, h2, h3, h4⟩ := cells_keeps b vs 0 w
  exact h.trans ⟨h1, h2, h3, by rw [h4]; exact Nat.le_refl _, fun k hk => cells_heap b vs 0 w (by omega)⟩
set_option maxHeartbeats 1600000 in
set_option maxRecDepth 100000 in
theorem costNil_walked (W : World) (hal : Works17 W) (fuel : Nat) (f : Flt) (v : Value) (hF : FAt false W 0 W.heap.size fuel f v) (c : Int) (ix : Bool) (A : Option Addr) (n m : Nat) (a : Nat) (nc ng : Bool) :
    Calls Tryz.prog 3 #[v, .agg #[.int .u64 c, .bool ix, .slice A n m, .float .f64 a, .bool nc, .bool ng]] W fun e w' => e = .returned (.bool true) ∧ Below W.heap.size W w' := by
  have HAL := Lib.hid hal
  have HF := Lib.hid hF
  have hform := FAt.formF hF
  have HFO := Lib.hid hform
  obtain ⟨k2, A2, m2, c2', s2, s3, s4, A5, m5, q5, s6, s7, x8, rfl⟩ := hform
  have hbx := bx_start W #[.int .i8 k2, .slice A2 m2 c2', .string ⟨s2.toArray⟩, .string ⟨s3.toArray⟩, .string ⟨s4.toArray⟩, .slice A5 m5 q5, .string ⟨s6.toArray⟩, .string ⟨s7.toArray⟩, .bool x8] #[.int .u64 c, .bool ix, .slice A n m, .float .f64 a, .bool nc, .bool ng]
  have HBX := Lib.hid hbx
  clear hal hF hbx
  go_enter Tryz.func3, Tryz.ntmps3
  go_upto_region 5 with (first
    | (go_at_call 5; (with_reducible refine (beyond17 fuel f _ _ W.heap.size (HF.out.below HBX.out.below) (by simp; omega)).mono ?_); rintro e w3 ⟨x, rfl, hb3⟩; have HB3 := Lib.hid (HBX.out.later hb3); obtain ⟨⟨c0, c1, c2, c3, c4, c5, c6, c7, c8⟩, d0, d1, d2, d3, d4, d5⟩ := HB3.out.cells; have hz3 := HB3.out.size; clear hb3)
    | (go_at_call 6; (with_reducible refine (HAL.out _ HB3.out.below).mono ?_); rintro e w6 ⟨rfl, hb6⟩; have HB6 := Lib.hid (HB3.out.below.trans (hb6.mono (by omega))); clear hb6)
    | (go_at_call 7; (with_reducible refine (asks_nil _ w3 HFO.out).mono ?_); rintro e w4 ⟨rfl, hb4⟩; have HB4 := Lib.hid (HB3.out.later hb4); have hz4 := HB4.out.size; have u1 := fun o => ((HB4.out.alloc o).cells).2.2.1; have u2 := fun o => bx_free (HB4.out.alloc o); clear hb4))
  · go_wp2_with fail
    go_ret
    exact ⟨rfl, HB6.out⟩
  · have hset := fun o => bx_set (u := .bool false) (HB4.out.alloc o)
    have hq := heap_alloc_new w4 (.cells zero4 35)
    have hq2 : ((w4.alloc (.cells zero4 35)).setCell ⟨W.heap.size + 1, 1, none⟩ (.bool false)).heap[w4.heap.size]? = some (.cells zero4 35 (0, 0)) := by
      rw [Below.heap_setCell _ _ _ _ (by simp; omega)]; exact hq
    have hz5 : w4.heap.size < ((w4.alloc (.cells zero4 35)).setCell ⟨W.heap.size + 1, 1, none⟩ (.bool false)).heap.size := (Array.getElem?_eq_some_iff.1 hq2).1
    have HS := Lib.hid (hset (.cells zero4 35))
    clear u1 u2 c0 c1 c2 c3 c4 c5 c6 c7 c8 d0 d1 d2 d3 d4 d5 hset hq
    generalize (w4.alloc (.cells zero4 35)).setCell ⟨W.heap.size + 1, 1, none⟩ (.bool false) = wb at HS hq2 hz5 ⊢
    have hsof : ∀ w', Below wb.heap.size wb w' → Below wb.heap.size wb w' ∧ w'.cell? ⟨W.heap.size, 0, none⟩ = some (.int .i8 k2) ∧ w'.cell? ⟨W.heap.size, 1, none⟩ = some (.slice A2 m2 c2') ∧ w'.cell? ⟨W.heap.size, 2, none⟩ = some (.string ⟨s2.toArray⟩) ∧ w'.cell? ⟨W.heap.size, 3, none⟩ = some (.string ⟨s3.toArray⟩) ∧ w'.cell? ⟨W.heap.size, 4, none⟩ = some (.string ⟨s4.toArray⟩) ∧ w'.cell? ⟨W.heap.size, 5, none⟩ = some (.slice A5 m5 q5) ∧ w'.cell? ⟨W.heap.size, 6, none⟩ = some (.string ⟨s6.toArray⟩) ∧ w'.cell? ⟨W.heap.size, 7, none⟩ = some (.string ⟨s7.toArray⟩) ∧ w'.cell? ⟨W.heap.size, 8, none⟩ = some (.bool x8) ∧ w'.cell? ⟨W.heap.size + 1, 0, none⟩ = some (.int .u64 c) ∧ w'.cell? ⟨W.heap.size + 1, 1, none⟩ = some (.bool false) ∧ w'.cell? ⟨W.heap.size + 1, 2, none⟩ = some (.slice A n m) ∧ w'.cell? ⟨W.heap.size + 1, 3, none⟩ = some (.float .f64 a) ∧ w'.cell? ⟨W.heap.size + 1, 4, none⟩ = some (.bool nc) ∧ w'.cell? ⟨W.heap.size + 1, 5, none⟩ = some (.bool ng) := fun w' hb => by
      obtain ⟨⟨e0, e1, e2, e3, e4, e5, e6, e7, e8⟩, g0, g1, g2, g3, g4, g5⟩ := (HS.out.later hb).cells
      exact ⟨hb, e0, e1, e2, e3, e4, e5, e6, e7, e8, g0, g1, g2, g3, g4, g5⟩
    have SOF := Lib.hid hsof
    have HQ := Lib.hid hq2
    clear hsof hq2
    go_region_held3 (fun w' => Below wb.heap.size wb w' ∧ w'.cell? ⟨W.heap.size, 0, none⟩ = some (.int .i8 k2) ∧ w'.cell? ⟨W.heap.size, 1, none⟩ = some (.slice A2 m2 c2') ∧ w'.cell? ⟨W.heap.size, 2, none⟩ = some (.string ⟨s2.toArray⟩) ∧ w'.cell? ⟨W.heap.size, 3, none⟩ = some (.string ⟨s3.toArray⟩) ∧ w'.cell? ⟨W.heap.size, 4, none⟩ = some (.string ⟨s4.toArray⟩) ∧ w'.cell? ⟨W.heap.size, 5, none⟩ = some (.slice A5 m5 q5) ∧ w'.cell? ⟨W.heap.size, 6, none⟩ = some (.string ⟨s6.toArray⟩) ∧ w'.cell? ⟨W.heap.size, 7, none⟩ = some (.string ⟨s7.toArray⟩) ∧ w'.cell? ⟨W.heap.size, 8, none⟩ = some (.bool x8) ∧ w'.cell? ⟨W.heap.size + 1, 0, none⟩ = some (.int .u64 c) ∧ w'.cell? ⟨W.heap.size + 1, 1, none⟩ = some (.bool false) ∧ w'.cell? ⟨W.heap.size + 1, 2, none⟩ = some (.slice A n m) ∧ w'.cell? ⟨W.heap.size + 1, 3, none⟩ = some (.float .f64 a) ∧ w'.cell? ⟨W.heap.size + 1, 4, none⟩ = some (.bool nc) ∧ w'.cell? ⟨W.heap.size + 1, 5, none⟩ = some (.bool ng)) (first
        | exact SOF.out _ (Below.refl _ _).drew
        | exact SOF.out _ (by assumption)
        | exact SOF.out _ (alloc_of (by assumption) _)
        | exact SOF.out _ (alloc_at (by assumption) _)
        | exact SOF.out _ (below_cells (by assumption) (by first | omega | (simp; omega) | simp))
        | exact SOF.out _ (below_cells (alloc_of (by assumption) _) (by first | omega | (simp; omega) | simp))
        | exact SOF.out _ (below_cells (alloc_at (by assumption) _) (by first | omega | (simp; omega) | simp))) (first
        | (go_at_call 9; (with_reducible refine (can_any _ _ _ _ _ _ _ _ _).mono ?_); rintro e w6 ⟨vc, rfl, hb6⟩; have hk6 := later_of (by assumption) hb6; have z6 := hk6.size; have y6 := hb6.size; (try simp at y6); (try with_reducible (have t6 := Lib.hid (heap_later (drew_new wb (.cells zero15 40)) hb6 (by simp)))); clear hb6)
        | (go_at_call 10; (with_reducible refine (guess_any _ _ _ _ _ _ _ _ _).mono ?_); rintro e w7 ⟨vg, rfl, hb7⟩; have hk7 := later_of (by assumption) hb7; have z7 := hk7.size; have y7 := hb7.size; (try simp at y7); (try with_reducible (have t7 := Lib.hid (heap_later t6.out hb7 (by first | omega | (simp; omega) | simp)))); (try with_reducible (have t7b := Lib.hid (heap_later (heap_alloc_new _ (.cells zero15 40)) hb7 (by simp)))); clear hb7)
        | (go_at_call 8; (with_reducible refine (plan_nil _ _ _ _ _ HFO.out).mono ?_); rintro e w8 ⟨rfl, hb8⟩; have hk8 := later_of (by assumption) hb8; have z8 := hk8.size; have y8 := hb8.size; (try simp at y8); obtain ⟨cs, hcs, hcc⟩ : ∃ cs : List Value, zero15 = cs.toArray ∧ cs = zero15.toList := ⟨zero15.toList, rfl, rfl⟩; rw [hcs]; (try with_reducible (have s8 := store_zero (heap_later t7.out hb8 (by first | omega | (simp; omega) | simp)) hcc; have T8 := Lib.hid (heap_later t7.out hb8 (by first | omega | (simp; omega) | simp)))); (try with_reducible (have s8 := store_zero (heap_later t7b.out hb8 (by first | omega | (simp; omega) | simp)) hcc; have T8 := Lib.hid (heap_later t7b.out hb8 (by first | omega | (simp; omega) | simp)))); (try with_reducible (have s8 := store_zero (heap_later (heap_alloc_new _ (.cells zero15 40)) hb8 (by simp)) hcc; have T8 := Lib.hid (heap_later (heap_alloc_new _ (.cells zero15 40)) hb8 (by simp)))); have s9 := store_zero (heap_alloc_new w8 (.cells zero15 40)) hcc; have HCC := Lib.hid hcc; have hcl : cs.length = 15 := (by rw [hcc]; rfl); clear hb8 hcs hcc))
    · have hF := plan_facts (heap_alloc_new w8 (.cells zero15 40)) HCC.out
      have hkF : Below wb.heap.size wb ((w8.alloc (.cells zero15 40)).setCells w8.heap.size 0 cs) := below_cells (alloc_at hk8 _) (by omega)
      have hq := (hkF.block w4.heap.size hz5).trans HQ.out
      (try clear s8)
      clear s9 hk6 hk7 hk8
      generalize (w8.alloc (.cells zero15 40)).setCells w8.heap.size 0 cs = wF at hF hkF hq ⊢
      obtain ⟨o0, o1, o2, o3, o4, o5, o6, o7, o8, o9, o10, o11, o12, o13, o14⟩ := hF
      obtain ⟨u0, u1, u2, u3⟩ := four_cells hq
      have HBF := Lib.hid (HS.out.below.trans (hkF.mono HS.out.below.size))
      have zF := hkF.size
      clear hq hkF
      go_wp2_with (go_at_call 6; (with_reducible refine (HAL.out wF HBF.out).mono ?_); rintro e w9 ⟨rfl, hb9⟩; have HB9 := Lib.hid (HBF.out.trans (hb9.mono HBF.out.size)); clear hb9)
      go_ret
      exact ⟨rfl, HB9.out⟩
    · have hF := plan_facts T8.out HCC.out
      have hkF : Below wb.heap.size wb ((w8).setCells w7.heap.size 0 cs) := below_cells hk8 (by omega)
      have hq := (hkF.block w4.heap.size hz5).trans HQ.out
      (try clear s8)
      clear s9 hk6 hk7 hk8
      generalize (w8).setCells w7.heap.size 0 cs = wF at hF hkF hq ⊢
      obtain ⟨o0, o1, o2, o3, o4, o5, o6, o7, o8, o9, o10, o11, o12, o13, o14⟩ := hF
      obtain ⟨u0, u1, u2, u3⟩ := four_cells hq
      have HBF := Lib.hid (HS.out.below.trans (hkF.mono HS.out.below.size))
      have zF := hkF.size
      clear hq hkF
      go_wp2_with (go_at_call 6; (with_reducible refine (HAL.out wF HBF.out).mono ?_); rintro e w9 ⟨rfl, hb9⟩; have HB9 := Lib.hid (HBF.out.trans (hb9.mono HBF.out.size)); clear hb9)
      go_ret
      exact ⟨rfl, HB9.out⟩
    · have hF := plan_facts T8.out HCC.out
      have hkF : Below wb.heap.size wb ((w8).setCells w6.heap.size 0 cs) := below_cells hk8 (by omega)
      have hq := (hkF.block w4.heap.size hz5).trans HQ.out
      (try clear s8)
      clear s9 hk6 hk7 hk8
      generalize (w8).setCells w6.heap.size 0 cs = wF at hF hkF hq ⊢
      obtain ⟨o0, o1, o2, o3, o4, o5, o6, o7, o8, o9, o10, o11, o12, o13, o14⟩ := hF
      obtain ⟨u0, u1, u2, u3⟩ := four_cells hq
      have HBF := Lib.hid (HS.out.below.trans (hkF.mono HS.out.below.size))
      have zF := hkF.size
      clear hq hkF
      go_wp2_with (go_at_call 6; (with_reducible refine (HAL.out wF HBF.out).mono ?_); rintro e w9 ⟨rfl, hb9⟩; have HB9 := Lib.hid (HBF.out.trans (hb9.mono HBF.out.size)); clear hb9)
      go_ret
      exact ⟨rfl, HB9.out⟩
    · have hF := plan_facts T8.out HCC.out
      have hkF : Below wb.heap.size wb ((w8).setCells wb.heap.size 0 cs) := below_cells hk8 (by omega)
      have hq := (hkF.block w4.heap.size hz5).trans HQ.out
      (try clear s8)
      clear s9 hk6 hk7 hk8
      generalize (w8).setCells wb.heap.size 0 cs = wF at hF hkF hq ⊢
      obtain ⟨o0, o1, o2, o3, o4, o5, o6, o7, o8, o9, o10, o11, o12, o13, o14⟩ := hF
      obtain ⟨u0, u1, u2, u3⟩ := four_cells hq
      have HBF := Lib.hid (HS.out.below.trans (hkF.mono HS.out.below.size))
      have zF := hkF.size
      clear hq hkF
      go_wp2_with (go_at_call 6; (with_reducible refine (HAL.out wF HBF.out).mono ?_); rintro e w9 ⟨rfl, hb9⟩; have HB9 := Lib.hid (HBF.out.trans (hb9.mono HBF.out.size)); clear hb9)
      go_ret
      exact ⟨rfl, HB9.out⟩
end Go.Proofs.YtjclahnbohdcpaaGreatDoor
