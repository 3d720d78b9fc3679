/-
  rosterlaw16.ShapeNil, walked (but for its closed call).
-/
import Derived.Test.YtdkfmckbeagenaaGreatDoorFltB16
import Derived.Laws.ResultCell
namespace Go.Proofs.YtdkfmckbeagenaaGreatDoor
open Go.RowKit Go.FltLaw Go.Lib Go.RankLaw

theorem results_ctt {P : Program} {fn : Func} {p u v : Tmp} {ty : TypeId} (h : fn.results = #[.cell p ty, .tmp u, .tmp v]) (tmps : Array Value) (w : World) (g : Nat) (t : TypeId) (cs : Array Value) (fr : Nat × Nat) (d : TypeDesc)
    (hp : tmps.getD p undef = .pointer (some ⟨g, 0, none⟩)) (hg : w.heap[g]? = some (.cells cs t fr)) (hu : P.underlying ty = some d) (hd : (match d with | .struct _ | .array _ _ => true | _ => false) = true) (hi : (P.info? ty).map (·.size) = some cs.size) :
    (results fn tmps).run P w = .ok (.tuple #[.agg cs, tmps.getD u undef, tmps.getD v undef]) w := by
  have h1 := run_loadVar_row (P := P) w g t ty cs fr d hg hu hd hi
  have hp' : tmps[p]?.getD undef = .pointer (some ⟨g, 0, none⟩) := by simpa using hp
  simp only [results, h]
  simp [Result.andThen, asAddr, hp', h1]

/-- The nine cells of a filter of zeros. -/
abbrev zero9 : Array Value := #[.int .i8 0, .slice none 0 0, .string ⟨#[]⟩, .string ⟨#[]⟩, .string ⟨#[]⟩, .slice none 0 0, .string ⟨#[]⟩, .string ⟨#[]⟩, .bool false]
set_option maxHeartbeats 800000 in
set_option maxRecDepth 100000 in
theorem bare_nil (v : Value) (w : World) (hv : ∃ (k : Int) (KA : Option Addr) (kn kc : Nat) (ds vl st : List UInt8) (MA : Option Addr) (mn mc : Nat) (fn rl : List UInt8) (dn : Bool),
      v = .agg #[.int .i8 k, .slice KA kn kc, .string ⟨ds.toArray⟩, .string ⟨vl.toArray⟩, .string ⟨st.toArray⟩, .slice MA mn mc, .string ⟨fn.toArray⟩, .string ⟨rl.toArray⟩, .bool dn]) :
    Calls Tryz.prog 16 #[.pointer none, v] w fun e w' => e = .returned (.tuple #[.agg zero9, .bool false, .int .i64 1]) ∧ Below w.heap.size w w' := by
  obtain ⟨k2, A2, m2, c2', s2, s3, s4, A5, m5, q5, s6, s7, x8, rfl⟩ := hv
  have h2 := fun o => heap_alloc2_new w o (.cells zero9 26)
  have H2 := Lib.hid h2
  have hb := fun o o' => ((Below.refl w.heap.size w).alloc (Nat.le_refl _) o).alloc (by simp) o'
  have HB := Lib.hid hb
  clear h2 hb
  go_enter Tryz.func16, Tryz.ntmps16
  go_wp2_with (refine wpList_store_row rfl 26 (.tmp 4) (.tmp 13) rfl (w.heap.size + 1) zero9 rfl rfl 26 zero9 (H2.out _) (by kernel_rfl) rfl (by simp [Value.oneCell']) ?_)
  (try simp only [Exit.inBlock, Exit.then])
  refine bodyPost_ret (results_ctt rfl _ _ (w.heap.size + 1) 26 _ (0, 0) _ rfl (setRow_heap _ _ _ _ _ _ (H2.out _)) Tryz.underlying26 rfl (by kernel_rfl)) rfl ?_
  exact ⟨rfl, (HB.out _ _).trans ⟨rfl, rfl, rfl, by simp, fun b hb => setRow_other _ _ _ _ (by omega)⟩⟩

set_option maxHeartbeats 1600000 in
set_option maxRecDepth 100000 in
theorem same_zero (w : World) : Calls Tryz.prog 11 #[.agg zero9, .agg zero9] w fun e w' => e = .returned (.bool true) ∧ Below w.heap.size w w' := by
  have hb := fun o o' => ((Below.refl w.heap.size w).alloc (Nat.le_refl _) o).alloc (by simp) o'
  have HB := Lib.hid hb
  clear hb
  go_enter Tryz.func11, Tryz.ntmps11
  go_wp2_with fail
  go_loop [5] (fun i => i = .int .i64 0) (fun i => 1 - (RowKit.intOf i).toNat)
  case atStart => exact rfl
  case round =>
    subst hrel
    go_wp2_with fail
    go_loop [6] (fun i => i = .int .i64 0) (fun i => 1 - (RowKit.intOf i).toNat)
    case atStart => exact rfl
    case round =>
      subst hrel
      go_wp2_with fail
      go_ret
      exact ⟨rfl, HB.out _ _⟩

theorem heavy16 (fuel : Nat) (f : Flt) (v : Value) (w : World) (B : Nat) (hF : FAt false w 0 B fuel f v) (hB : B ≤ w.heap.size) :
    Calls Tryz.prog 6 #[v] w fun e w' => ∃ x, e = .returned (.bool x) ∧ Below w.heap.size w w' := by
  have hFw : ∀ o, FAt false (w.alloc o) 0 B fuel f v := fun o => hF.below ((Below.refl B w).alloc hB o)
  have HF := Lib.hid hFw
  have hb := fun o => (Below.refl w.heap.size w).alloc (Nat.le_refl _) o
  have HB := Lib.hid hb
  obtain ⟨k2, A2, m2, c2', s2, s3, s4, A5, m5, q5, s6, s7, x8, rfl⟩ := (FAt.formF hF)
  clear hF hFw hb
  go_enter Tryz.func6, Tryz.ntmps6
  go_wp2_with (go_at_call 19; (with_reducible refine (left16 fuel f _ 16777216 _ B (HF.out _) (by simp; omega) (by omega) (by omega)).mono ?_); rintro e w4 ⟨r, hr0, hr1, rfl, hb4⟩; have HB4 := Lib.hid ((HB.out _).trans (hb4.mono (by simp))); clear hb4)
  all_goals
    go_ret
    exact ⟨_, rfl, HB4.out⟩
/-- The closed call answers true wherever the variables hold what is laid. -/
abbrev Wakes16 (W : World) : Prop := ∀ w : World, Below W.heap.size W w → Calls Tryz.prog 15 #[] w fun e w' => e = .returned (.bool true) ∧ Below w.heap.size w w'
set_option maxHeartbeats 1600000 in
set_option maxRecDepth 100000 in
theorem shapeNil_walked (W : World) (hal : Wakes16 W) (fuel : Nat) (f : Flt) (v : Value) (hF : FAt false W 0 W.heap.size fuel f v) :
    Calls Tryz.prog 4 #[v] W fun e w' => e = .returned (.bool true) ∧ Below W.heap.size W w' := by
  have HAL := Lib.hid hal
  have hFw : ∀ o, FAt false (W.alloc o) 0 W.heap.size fuel f v := fun o => hF.below ((Below.refl _ W).alloc (Nat.le_refl _) o)
  have HF := Lib.hid hFw
  have hb := fun o => (Below.refl W.heap.size W).alloc (Nat.le_refl _) o
  have HB := Lib.hid hb
  have hform := FAt.formF hF
  have HFO := Lib.hid hform
  obtain ⟨k2, A2, m2, c2', s2, s3, s4, A5, m5, q5, s6, s7, x8, rfl⟩ := hform
  have h2 := heap_alloc_new W (.cells #[.int .i8 k2, .slice A2 m2 c2', .string ⟨s2.toArray⟩, .string ⟨s3.toArray⟩, .string ⟨s4.toArray⟩, .slice A5 m5 q5, .string ⟨s6.toArray⟩, .string ⟨s7.toArray⟩, .bool x8] 26)
  have H2 := Lib.hid h2
  clear hal hF hFw hb h2
  go_enter Tryz.func4, Tryz.ntmps4
  go_wp2_with (first
    | (go_at_call 6; (with_reducible refine (heavy16 fuel f _ _ W.heap.size (HF.out _) (by simp)).mono ?_); rintro e w3 ⟨x, rfl, hb3⟩; have HB3 := Lib.hid ((HB.out _).trans (hb3.mono (by simp))); have g2 := (hb3.block W.heap.size (by simp)).trans H2.out; obtain ⟨c0, c1, c2, c3, c4, c5, c6, c7, c8⟩ : w3.cell? ⟨W.heap.size, 0, none⟩ = some (.int .i8 k2) ∧ w3.cell? ⟨W.heap.size, 1, none⟩ = some (.slice A2 m2 c2') ∧ w3.cell? ⟨W.heap.size, 2, none⟩ = some (.string ⟨s2.toArray⟩) ∧ w3.cell? ⟨W.heap.size, 3, none⟩ = some (.string ⟨s3.toArray⟩) ∧ w3.cell? ⟨W.heap.size, 4, none⟩ = some (.string ⟨s4.toArray⟩) ∧ w3.cell? ⟨W.heap.size, 5, none⟩ = some (.slice A5 m5 q5) ∧ w3.cell? ⟨W.heap.size, 6, none⟩ = some (.string ⟨s6.toArray⟩) ∧ w3.cell? ⟨W.heap.size, 7, none⟩ = some (.string ⟨s7.toArray⟩) ∧ w3.cell? ⟨W.heap.size, 8, none⟩ = some (.bool x8) := (by simp [World.cell?, g2]); have hz3 : W.heap.size + 1 ≤ w3.heap.size := (by have := hb3.size; simp at this; omega); clear hb3 g2)
    | (go_at_call 16; (with_reducible refine (bare_nil _ w3 HFO.out).mono ?_); rintro e w4 ⟨rfl, hb4⟩; have HB4 := Lib.hid (HB3.out.trans (hb4.mono (by omega))); have hz4 := hb4.size; clear hb4)
    | (go_at_call 11; (with_reducible refine (same_zero _).mono ?_); rintro e w5 ⟨rfl, hb5⟩; have HB5 := Lib.hid ((HB4.out.alloc (by omega) _).trans (hb5.mono (by simp; omega))); clear hb5)
    | (go_at_call 15; (with_reducible refine (HAL.out w5 HB5.out).mono ?_); rintro e w6 ⟨rfl, hb6⟩; have HB6 := Lib.hid (HB5.out.trans (hb6.mono HB5.out.size)); clear hb6))
  · go_ret
    exact ⟨rfl, HB3.out⟩
  · go_ret
    exact ⟨rfl, HB6.out⟩
end Go.Proofs.YtdkfmckbeagenaaGreatDoor
