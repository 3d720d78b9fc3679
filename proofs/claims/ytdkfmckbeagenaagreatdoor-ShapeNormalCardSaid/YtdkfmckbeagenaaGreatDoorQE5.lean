/-
  shape.Normal; rosterlaw16.turned; filters built of filters.
 rosterlaw16.ShapeOrder, walked.
-/
import Derived.Test.YtdkfmckbeagenaaGreatDoorQE3
import Derived.Test.YtdkfmckbeagenaaGreatDoorQD2
import Derived.Test.YtdkfmckbeagenaaGreatDoorQA2
import Derived.Test.YtdkfmckbeagenaaGreatDoorQE4
namespace Go.Proofs.YtdkfmckbeagenaaGreatDoor
open Go.RowKit Go.FltLaw Go.Lib Go.RankLaw

theorem results_ct16 {P : Program} {fn : Func} {p u : Tmp} {ty : TypeId} (h : fn.results = #[.cell p ty, .tmp u]) (tmps : Array Value) (w : World) (g : Nat) (t : TypeId) (cs : Array Value) (fr : Nat × Nat) (d : TypeDesc)
  (hp : tmps.getD p undef = .pointer (some ⟨g, 0, none⟩)) (hg : w.heap[g]? = some (.cells cs t fr)) (hu : P.underlying ty = some d) (hd : (match d with | .struct _ | .array _ _ => true | _ => false) = true) (hi : (P.info? ty).map (·.size) = some cs.size) :
  (results fn tmps).run P w = .ok (.tuple #[.agg cs, tmps.getD u undef]) w := by
 have h1 := run_loadVar_row (P := P) w g t ty cs fr d hg hu hd hi
 have hp' : tmps[p]?.getD undef = .pointer (some ⟨g, 0, none⟩) := by simpa using hp
 simp only [results, h]
 simp [Result.andThen, asAddr, hp', h1]
theorem nine_heap {w : World} {b : Nat} {a0 a1 a2 a3 a4 a5 a6 a7 a8 : Value} {t : TypeId} {fr : Nat × Nat} (h : w.heap[b]? = some (.cells #[a0, a1, a2, a3, a4, a5, a6, a7, a8] t fr)) :
  w.cell? ⟨b, 0, none⟩ = some a0 ∧ w.cell? ⟨b, 1, none⟩ = some a1 ∧ w.cell? ⟨b, 2, none⟩ = some a2 ∧ w.cell? ⟨b, 3, none⟩ = some a3 ∧ w.cell? ⟨b, 4, none⟩ = some a4 ∧ w.cell? ⟨b, 5, none⟩ = some a5 ∧ w.cell? ⟨b, 6, none⟩ = some a6 ∧ w.cell? ⟨b, 7, none⟩ = some a7 ∧ w.cell? ⟨b, 8, none⟩ = some a8 := by
 simp [World.cell?, h]
theorem itv_lt {lo hi b : Nat} (h : Itv lo hi b) : b < hi := h.2
theorem may_check0 {f : Flt} (h : FltLaw.may f) : (check f).1 = 0 := check_ok.2 h
end Go.Proofs.YtdkfmckbeagenaaGreatDoor

namespace Go.Proofs.YtdkfmckbeagenaaGreatDoor
open Go.RowKit Go.FltLaw Go.Lib Go.RankLaw

theorem junc_at {S : Nat → Prop} {w : World} {n b : Nat} {k : Int} {ks : List Flt} {cs : Array Value} {t : TypeId} {fr : Nat × Nat} (hk : k = 0 ∨ k = 1) (hb : S b) (hl : ks.length ≤ 3) (h : w.heap[b]? = some (.cells cs t fr)) (hks : KidsS S w n ks cs.toList) :
  FAtS S w (n + 1) (juncF k ks) (.agg #[.int .i8 k, .slice (some ⟨b, 0, none⟩) ks.length ks.length, .string ⟨#[]⟩, .string ⟨#[]⟩, .string ⟨#[]⟩, .slice none 0 0, .string ⟨#[]⟩, .string ⟨#[]⟩, .bool false]) := by
 refine ⟨some ⟨b, 0, none⟩, ks.length, none, 0, rfl, ⟨by omega, by omega, Nat.le_refl _, by unfold maxLen; omega, by omega, by simp, by simp, by simp, by simp, by unfold maxLen; omega, by simp, by simp, by simp, by simp⟩, fun h => by simp at h, fun _ => ⟨_, rfl, hb, fun i f hi => ?_⟩⟩
 obtain ⟨v, h1, h2⟩ := hks i f hi
 refine ⟨v, h1, fun j u hu => ?_⟩
 have e : (⟨b, 0, none⟩ : Addr).add (i * 9 + j) = ⟨b, i * 9 + j, none⟩ := by unfold Addr.add; split <;> simp_all
 have hu' : cs[i * 9 + j]? = some u := by have := h2 j u hu; simpa using this
 rw [e]
 unfold World.cell?
 simp only [h]
 exact hu'
theorem built {w : World} {n : Nat} {f g : Flt} {vf vg : Value} {k : Int} {cs2 cs3 cs4 : Array Value} {o1 o4 : Obj} {t t3 t4 : TypeId} (hk : k = 0 ∨ k = 1) (hF : FAt false w 0 w.heap.size n f vf) (hG : FAt false w 0 w.heap.size n g vg)
  (h2 : cs2.toList = vf.cells.toList ++ vg.cells.toList) (h3 : cs3.toList = vf.cells.toList ++ vg.cells.toList ++ vf.cells.toList)
  (h4 : cs4.toList = vg.cells.toList ++ [.int .i8 k, .slice (some ⟨w.heap.size + 1 + 1, 0, none⟩) 3 3, .string ⟨#[]⟩, .string ⟨#[]⟩, .string ⟨#[]⟩, .slice none 0 0, .string ⟨#[]⟩, .string ⟨#[]⟩, .bool false]) :
  FAt false (((((w.alloc (.cells cs2 t)).alloc o1).alloc (.cells cs3 t3)).alloc (.cells cs4 t4)).alloc o4) 0 (((((w.alloc (.cells cs2 t)).alloc o1).alloc (.cells cs3 t3)).alloc (.cells cs4 t4)).alloc o4).heap.size (n + 2) (juncF k [f, g]) (.agg #[.int .i8 k, .slice (some ⟨w.heap.size, 0, none⟩) 2 2, .string ⟨#[]⟩, .string ⟨#[]⟩, .string ⟨#[]⟩, .slice none 0 0, .string ⟨#[]⟩, .string ⟨#[]⟩, .bool false]) ∧
  FAt false (((((w.alloc (.cells cs2 t)).alloc o1).alloc (.cells cs3 t3)).alloc (.cells cs4 t4)).alloc o4) 0 (((((w.alloc (.cells cs2 t)).alloc o1).alloc (.cells cs3 t3)).alloc (.cells cs4 t4)).alloc o4).heap.size (n + 2) (juncF k [g, juncF k [f, g, f]]) (.agg #[.int .i8 k, .slice (some ⟨w.heap.size + 1 + 1 + 1, 0, none⟩) 2 2, .string ⟨#[]⟩, .string ⟨#[]⟩, .string ⟨#[]⟩, .slice none 0 0, .string ⟨#[]⟩, .string ⟨#[]⟩, .bool false]) := by
 generalize hW : ((((w.alloc (.cells cs2 t)).alloc o1).alloc (.cells cs3 t3)).alloc (.cells cs4 t4)).alloc o4 = W
 have b1 : W.heap[w.heap.size]? = some (.cells cs2 t (0, 0)) := by
  rw [← hW]; exact kb_alloc (kb_alloc (kb_alloc (heap_alloc2_old _ _ _)))
 have b2 : W.heap[w.heap.size + 1 + 1]? = some (.cells cs3 t3 (0, 0)) := by
  rw [← hW]
  have := heap_alloc_new ((w.alloc (.cells cs2 t)).alloc o1) (.cells cs3 t3)
  exact kb_alloc (kb_alloc (by simpa using this))
 have b3 : W.heap[w.heap.size + 1 + 1 + 1]? = some (.cells cs4 t4 (0, 0)) := by
  rw [← hW]
  have := heap_alloc_new (((w.alloc (.cells cs2 t)).alloc o1).alloc (.cells cs3 t3)) (.cells cs4 t4)
  exact kb_alloc (by simpa using this)
 have hsz : W.heap.size = w.heap.size + 5 := by rw [← hW]; simp
 have hb : Below w.heap.size w W := by
  rw [← hW]
  exact (((((Below.refl _ w).alloc (Nat.le_refl _) _).alloc (by simp) _).alloc (by simp; omega) _).alloc (by simp; omega) _).alloc (by simp; omega) _
 have hf : FAtS (fun b => b < W.heap.size) W n f vf := (FAtS.of (hF.below hb)).mono fun b hb => by have := itv_lt hb; omega
 have hg : FAtS (fun b => b < W.heap.size) W n g vg := (FAtS.of (hG.below hb)).mono fun b hb => by have := itv_lt hb; omega
 have lf : vf.cells.toList.length = [f].length * 9 := by
  obtain ⟨c, rfl, h, _⟩ := FAtS.cells9 hf
  simpa [Value.cells] using h
 have lg : vg.cells.toList.length = [g].length * 9 := by
  obtain ⟨c, rfl, h, _⟩ := FAtS.cells9 hg
  simpa [Value.cells] using h
 have lfg : (vf.cells.toList ++ vg.cells.toList).length = ([f] ++ [g]).length * 9 := by rw [List.length_append, lf, lg]; rfl
 have kfg := KidsS.app lf (KidsS.one hf) (KidsS.one hg)
 have k3 := KidsS.app lfg kfg (KidsS.one hf)
 have hj := junc_at (S := fun b => b < W.heap.size) hk (by show w.heap.size + 1 + 1 < W.heap.size; omega) (by simp) b2 (ks := [f] ++ [g] ++ [f]) (by rw [h3]; exact k3)
 have kgj := KidsS.app lg (KidsS.one (hg.up (Nat.le_succ n))) (KidsS.one hj)
 have e : (Value.agg #[.int .i8 k, .slice (some ⟨w.heap.size + 1 + 1, 0, none⟩) ([f] ++ [g] ++ [f]).length ([f] ++ [g] ++ [f]).length, .string ⟨#[]⟩, .string ⟨#[]⟩, .string ⟨#[]⟩, .slice none 0 0, .string ⟨#[]⟩, .string ⟨#[]⟩, .bool false]).cells.toList = [.int .i8 k, .slice (some ⟨w.heap.size + 1 + 1, 0, none⟩) 3 3, .string ⟨#[]⟩, .string ⟨#[]⟩, .string ⟨#[]⟩, .slice none 0 0, .string ⟨#[]⟩, .string ⟨#[]⟩, .bool false] := rfl
 rw [e] at kgj
 refine ⟨FAtS.to (fun b hb => ⟨Nat.zero_le _, hb⟩) (FAtS.up (Nat.le_succ _) (junc_at (S := fun b => b < W.heap.size) hk (by show w.heap.size < W.heap.size; omega) (by simp) b1 (ks := [f] ++ [g]) (by rw [h2]; exact kfg))), FAtS.to (fun b hb => ⟨Nat.zero_le _, hb⟩) ?_⟩
 exact junc_at (S := fun b => b < W.heap.size) hk (by show w.heap.size + 1 + 1 + 1 < W.heap.size; omega) (by simp) b3 (ks := [g] ++ [juncF k ([f] ++ [g] ++ [f])]) (by rw [h4]; exact kgj)
end Go.Proofs.YtdkfmckbeagenaaGreatDoor
