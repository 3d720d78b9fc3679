/-
  rosterlaw17.beyond; cost.Asks without a schema.
-/
import Derived.Test.YtjclahnbohdcpaaGreatDoorFltB17
import Derived.Laws.ResultCell
namespace Go.Proofs.YtjclahnbohdcpaaGreatDoor
open Go.RowKit Go.FltLaw Go.Lib Go.RankLaw

theorem counts_zero {fuel : Nat} {f : Flt} {v : Value} {w : World} {B nb : Nat} (h1 : FAt false w 0 B fuel f v) (h2 : B ≤ nb) (h3 : w.heap[nb]? = some (.cells #[.int .i64 0] 3 (0, 0))) :
    Calls Tryz.prog 18 #[v, .pointer (some ⟨nb, 0, none⟩), .int .i64 0] w fun e w' => ∃ (x : Bool), e = .returned (.bool x) ∧ w.grownBy w' (some nb) :=
  (counts17 fuel f v 0 0 w B nb h1 h2 h3 (by omega) (by omega) (by omega)).mono fun _ _ ⟨x, _, e1, e2, _, _⟩ => ⟨x, e1, e2⟩
set_option maxHeartbeats 800000 in
set_option maxRecDepth 100000 in
theorem beyond17 (fuel : Nat) (f : Flt) (v : Value) (w : World) (B : Nat) (hF : FAt false w 0 B fuel f v) (hB : B ≤ w.heap.size) :
    Calls Tryz.prog 5 #[v] w fun e w' => ∃ x, e = .returned (.bool x) ∧ Below w.heap.size w w' := by
  have hFw : ∀ o o', FAt false ((w.alloc o).alloc o') 0 w.heap.size fuel f v := fun o o' => (hF.wide (Nat.le_refl _) hB).below (((Below.refl _ w).alloc (Nat.le_refl _) o).alloc (by simp) o')
  have HF := Lib.hid hFw
  have hn : ∀ o, ((w.alloc o).alloc (.cells #[.int .i64 0] 3)).heap[w.heap.size + 1]? = some (.cells #[.int .i64 0] 3 (0, 0)) := fun o => heap_alloc2_new w o _
  have HN := Lib.hid hn
  have hb := fun o o' => ((Below.refl w.heap.size w).alloc (Nat.le_refl _) o).alloc (by simp) o'
  have HB := Lib.hid hb
  obtain ⟨k2, A2, m2, c2', s2, s3, s4, A5, m5, q5, s6, s7, x8, rfl⟩ := (FAt.formF hF)
  clear hF hFw hb hn
  go_enter Tryz.func5, Tryz.ntmps5
  go_wp2_with (go_at_call 18; (with_reducible refine (counts_zero (HF.out _ _) (by omega) (HN.out _)).mono ?_); rintro e w4 ⟨x, rfl, hg4⟩; have HB4 := Lib.hid ((HB.out _ _).grown hg4 (by simp; omega) (fun k e => by injection e with e; omega)); clear hg4)
  go_ret
  exact ⟨_, rfl, HB4.out⟩
theorem below_row {B : Nat} (w : World) (g : Nat) (cs : Array Value) (h : B ≤ g) : Below B w (w.setRow g cs) := ⟨rfl, rfl, rfl, by simp, fun _ hk => setRow_other _ _ _ _ (by omega)⟩
theorem results_c {fn : Func} {p : Tmp} {ty : TypeId} (h : fn.results = #[.cell p ty]) (tmps : Array Value) (P : Program) (w : World) :
    (results fn tmps).run P w = ((asAddr (tmps.getD p undef)).run P w).andThen fun a w₁ => (loadVar ty a).run P w₁ := by
  simp only [results, h]
  simp [Sem.run_bind, Result.andThen]
theorem results_ctc {fn : Func} {p u q : Tmp} {ty uy : TypeId} (h : fn.results = #[.cell p ty, .tmp u, .cell q uy]) (tmps : Array Value) (P : Program) (w : World) (a b : Addr) (x y : Value)
    (hp : tmps.getD p undef = .pointer (some a)) (hq : tmps.getD q undef = .pointer (some b)) (hx : (loadVar ty a).run P w = .ok x w) (hy : (loadVar uy b).run P w = .ok y w) :
    (results fn tmps).run P w = .ok (.tuple #[x, tmps.getD u undef, y]) w := by
  have hp' : tmps[p]?.getD undef = .pointer (some a) := by simpa using hp
  have hq' : tmps[q]?.getD undef = .pointer (some b) := by simpa using hq
  simp only [results, h]
  simp [Sem.run_bind, Result.andThen, asAddr, hp', hq', hx, hy]
theorem known_nil (v : Value) (w : World) (hv : ∃ (k : Int) (KA : Option Addr) (kn kc : Nat) (ds vl st : List UInt8) (MA : Option Addr) (mn mc : Nat) (fn rl : List UInt8) (dn : Bool),
      v = .agg #[.int .i8 k, .slice KA kn kc, .string ⟨ds.toArray⟩, .string ⟨vl.toArray⟩, .string ⟨st.toArray⟩, .slice MA mn mc, .string ⟨fn.toArray⟩, .string ⟨rl.toArray⟩, .bool dn]) :
    Calls Tryz.prog 24 #[.pointer none, v] w fun e w' => e = .returned (.bool false) ∧ Below w.heap.size w w' := by
  obtain ⟨k2, A2, m2, c2', s2, s3, s4, A5, m5, q5, s6, s7, x8, rfl⟩ := hv
  go_enter Tryz.func24, Tryz.ntmps24
  go_wp2_with fail
  refine bodyPost_ret (v := .bool false) ?_ rfl ⟨rfl, ?_⟩
  · rw [results_c rfl]
    go_simp
  · repeat' (first | exact Below.refl _ _ | refine Below.alloc ?_ (by simp <;> omega) _)

/-- The four cells of a fetch of nothing. -/
abbrev zero4 : Array Value := #[.int .i8 0, .int .i64 0, .string ⟨#[]⟩, .slice none 0 0]
set_option maxHeartbeats 3200000 in
set_option maxRecDepth 100000 in
theorem asks_nil (v : Value) (w : World) (hv : ∃ (k : Int) (KA : Option Addr) (kn kc : Nat) (ds vl st : List UInt8) (MA : Option Addr) (mn mc : Nat) (fn rl : List UInt8) (dn : Bool),
      v = .agg #[.int .i8 k, .slice KA kn kc, .string ⟨ds.toArray⟩, .string ⟨vl.toArray⟩, .string ⟨st.toArray⟩, .slice MA mn mc, .string ⟨fn.toArray⟩, .string ⟨rl.toArray⟩, .bool dn]) :
    Calls Tryz.prog 7 #[.pointer none, v] w fun e w' => e = .returned (.tuple #[.agg zero4, .bool false, .bool false]) ∧ Below w.heap.size w w' := by
  have HFO := Lib.hid hv
  obtain ⟨k2, A2, m2, c2', s2, s3, s4, A5, m5, q5, s6, s7, x8, rfl⟩ := hv
  have hb : ∀ o1 o2 o3 o4, Below w.heap.size w ((((w.alloc o1).alloc o2).alloc o3).alloc o4) := fun o1 o2 o3 o4 => ((((Below.refl w.heap.size w).alloc (Nat.le_refl _) o1).alloc (by simp) o2).alloc (by simp; omega) o3).alloc (by simp; omega) o4
  have HB := Lib.hid hb
  have h3 : ∀ o1 o2 o4, ((((w.alloc o1).alloc o2).alloc (.cells zero4 35)).alloc o4).heap[w.heap.size + 1 + 1]? = some (.cells zero4 35 (0, 0)) := fun o1 o2 o4 => by
    rw [Below.heap_alloc _ _ _ (by simp)]
    have := heap_alloc_new ((w.alloc o1).alloc o2) (.cells zero4 35)
    simpa using this
  have H3 := Lib.hid h3
  have h4 : ∀ o1 o2 o3, ((((w.alloc o1).alloc o2).alloc o3).alloc (.cells #[.bool false] 4)).heap[w.heap.size + 1 + 1 + 1]? = some (.cells #[.bool false] 4 (0, 0)) := fun o1 o2 o3 => by
    have := heap_alloc_new (((w.alloc o1).alloc o2).alloc o3) (.cells #[.bool false] 4)
    simpa using this
  have H4 := Lib.hid h4
  clear hb h3 h4
  by_cases hk : k2 < 3
  · have g3 := H3.out
    have e1 : ∀ o1 o2 o3, (((((w.alloc o1).alloc o2).alloc o3).alloc (.cells #[.bool false] 4)).setRow (w.heap.size + 1 + 1) zero4).heap[w.heap.size + 1 + 1 + 1]? = some (.cells #[.bool false] 4 (0, 0)) := fun o1 o2 o3 => (setRow_other _ _ _ _ (by omega)).trans (H4.out o1 o2 o3)
    have e2 : ∀ o1 o2 o3, (((((w.alloc o1).alloc o2).alloc o3).alloc (.cells #[.bool false] 4)).setRow (w.heap.size + 1 + 1) zero4).cell? ⟨w.heap.size + 1 + 1 + 1, 0, none⟩ = some (.bool false) := fun o1 o2 o3 => cell_of_one (e1 o1 o2 o3)
    have e3 : ∀ o1 o2 o3, (((((w.alloc o1).alloc o2).alloc o3).alloc (.cells #[.bool false] 4)).setRow (w.heap.size + 1 + 1) zero4).frozen? ⟨w.heap.size + 1 + 1 + 1, 0, none⟩ = false := fun o1 o2 o3 => free_of_one (e1 o1 o2 o3)
    clear e1 g3
    go_enter Tryz.func7, Tryz.ntmps7
    go_wp2_with (refine wpList_store_row rfl 35 (.tmp 4) (.tmp 26) rfl (w.heap.size + 1 + 1) zero4 rfl rfl 35 zero4 (H3.out _ _ _) (by kernel_rfl) rfl (by simp [Value.oneCell']) ?_)
    refine bodyPost_ret (results_ctc rfl _ _ _ ⟨w.heap.size + 1 + 1, 0, none⟩ ⟨w.heap.size + 1 + 1 + 1, 0, none⟩ (.agg zero4) (.bool false) rfl rfl ?_ ?_) rfl ⟨rfl, ?_⟩
    · exact run_loadVar_row _ _ 35 35 zero4 (0, 0) _ (by rw [Below.heap_setCell _ _ _ _ (by simp)]; exact setRow_heap _ _ _ _ _ _ (H3.out _ _ _)) Tryz.underlying35 rfl (by kernel_rfl)
    · go_simp
    · exact ((HB.out _ _ _ _).trans (below_row _ (w.heap.size + 1 + 1) zero4 (by omega))).setCell (p := ⟨w.heap.size + 1 + 1 + 1, 0, none⟩) (by simp; omega) _
  · have hk' : 3 ≤ k2 := by omega
    go_enter Tryz.func7, Tryz.ntmps7
    go_wp2_with (first
      | (go_at_call 24; (with_reducible refine (known_nil _ _ HFO.out).mono ?_); rintro e w4 ⟨rfl, hb4⟩; have HB4 := Lib.hid ((HB.out _ _ _ _).trans (hb4.mono (by simp; omega))); have g3 := (hb4.block (w.heap.size + 1 + 1) (by simp)).trans (H3.out _ _ _); have G3 := Lib.hid g3; have g4 := (hb4.block (w.heap.size + 1 + 1 + 1) (by simp)).trans (H4.out _ _ _); have G4 := Lib.hid g4; have g5 : (w4.setRow (w.heap.size + 1 + 1) zero4).heap[w.heap.size + 1 + 1 + 1]? = _ := (setRow_other w4 _ _ _ (by omega)).trans g4; have G5 := Lib.hid g5; have e1 : (w4.setRow (w.heap.size + 1 + 1) zero4).cell? ⟨w.heap.size + 1 + 1 + 1, 0, none⟩ = some (.bool false) := (by simp [World.cell?, g5]); have e2 : (w4.setRow (w.heap.size + 1 + 1) zero4).frozen? ⟨w.heap.size + 1 + 1 + 1, 0, none⟩ = false := (by simp [World.frozen?, g5]); clear hb4 g3 g4 g5)
      | (refine wpList_store_row rfl 35 (.tmp 4) (.tmp 26) rfl (w.heap.size + 1 + 1) zero4 rfl rfl 35 zero4 G3.out (by kernel_rfl) rfl (by simp [Value.oneCell']) ?_))
    refine bodyPost_ret (results_ctc rfl _ _ _ ⟨w.heap.size + 1 + 1, 0, none⟩ ⟨w.heap.size + 1 + 1 + 1, 0, none⟩ (.agg zero4) (.bool false) rfl rfl ?_ ?_) rfl ⟨rfl, ?_⟩
    · exact run_loadVar_row _ _ 35 35 zero4 (0, 0) _ (by rw [Below.heap_setCell _ _ _ _ (by simp)]; exact setRow_heap _ _ _ _ _ _ G3.out) Tryz.underlying35 rfl (by kernel_rfl)
    · go_simp
    · exact (HB4.out.trans (below_row _ (w.heap.size + 1 + 1) zero4 (by omega))).setCell (p := ⟨w.heap.size + 1 + 1 + 1, 0, none⟩) (by simp; omega) _
end Go.Proofs.YtjclahnbohdcpaaGreatDoor
