/-
  entry.Values without a schema: a function that hands over nothing.
-/
import Derived.Test.YtiiadibbkijnhaaGreatDoorEntNil1
namespace Go.Proofs.YtiiadibbkijnhaaGreatDoor
open Go.RowKit Go.FltLaw Go.EntLaw Go.Lib Go.RankLaw

/-- Where Values stands in its loop. -/
structure ValsAt (w wr : World) (KA : Option Addr) (n kc : Nat) : Prop where
  below : Below w.heap.size w wr
  eb : wr.heap[w.heap.size]? = some (.cells #[.slice KA n kc] 24 (0, 0))
  lb : wr.heap[w.heap.size + 1]? = some (.cells #[.slice none 0 0] 22 (0, 0))
theorem ValsAt.start (w : World) (KA : Option Addr) (n kc : Nat) : ValsAt w ((w.alloc (.cells #[.slice KA n kc] 24)).alloc (.cells #[.slice none 0 0] 22)) KA n kc := by
  refine ⟨((Below.refl _ _).alloc (Nat.le_refl _) _).alloc (by simp) _, ?_, heap_alloc2_new w _ _⟩
  rw [Below.heap_alloc _ _ _ (by simp), heap_alloc_new]
theorem ValsAt.size {w wr : World} {KA : Option Addr} {n kc : Nat} (h : ValsAt w wr KA n kc) : w.heap.size + 2 ≤ wr.heap.size := by
  have := (Array.getElem?_eq_some_iff.1 h.lb).1
  omega
theorem ValsAt.alloc {w wr : World} {KA : Option Addr} {n kc : Nat} (h : ValsAt w wr KA n kc) (o : Obj) : ValsAt w (wr.alloc o) KA n kc := by
  have hs := h.size
  exact ⟨h.below.alloc (by omega) o, (Below.heap_alloc _ _ _ (by omega)).trans h.eb, (Below.heap_alloc _ _ _ (by omega)).trans h.lb⟩

set_option maxHeartbeats 1600000 in
set_option maxRecDepth 100000 in
theorem values_nil (l : List Atr) (KA : Option Addr) (kc : Nat) (d : List UInt8) (w : World) (B : Nat) (hE : EAt w 0 B l KA kc) (hB : B ≤ w.heap.size) :
    Calls Tryz.prog 9 #[.pointer none, ent KA l.length kc, .string ⟨d.toArray⟩] w fun e w' =>
      e = .returned (.func (.func 33) #[] #[.pointer (some ⟨w.heap.size + 1, 0, none⟩)]) ∧ w'.heap[w.heap.size + 1]? = some (.cells #[.slice none 0 0] 22 (0, 0)) ∧ Below w.heap.size w w' := by
  have HE := Lib.hid hE
  have hc0 := hE.c0
  have hc1 := hE.c1
  have hn1 := hE.n1
  clear hE
  go_enter Tryz.func9, Tryz.ntmps9
  go_wp2_with fail
  go_loopw [15] (fun i wr => ∃ (j : Nat), j ≤ l.length ∧ i = .int .i64 j ∧ ValsAt w wr KA l.length kc) (fun i _ => l.length - (RowKit.intOf i).toNat)
  case atStart => exact ⟨0, Nat.zero_le _, rfl, ValsAt.start _ _ _ _⟩
  case round =>
    obtain ⟨j, hj, rfl, hV⟩ := hrel
    have HV := Lib.hid hV
    have hsz := hV.size
    by_cases hlt : j < l.length
    · obtain ⟨ad, rfl, _, hadB, hel⟩ := HE.out.at_ (by omega)
      have hke := List.getElem?_eq_getElem hlt
      generalize l[j] = q at hke
      obtain ⟨_, A, c, _, h0, h1⟩ := hel j _ hke
      obtain ⟨g0, g1⟩ := two_at (w := wr) (m := j * 2) (((hV.below.mono hB).cell (p := ad.add (j * 2)) (by rw [RankLaw.add_block]; exact hadB)).trans h0) (((hV.below.mono hB).cell (p := ad.add (j * 2 + 1)) (by rw [RankLaw.add_block]; exact hadB)).trans h1)
      unfold txt at g0
      clear hel h0 h1 hke hV
      go_wp2_with (go_at_call 30; (with_reducible refine (covers_nil _ _ _).mono ?_); rintro e2 w2 ⟨rfl, rfl⟩)
      go_round
      case rel => exact ⟨j + 1, by omega, by go_num, HV.out.alloc _⟩
      case measure => simp [RowKit.intOf]; omega
    · have ej : j = l.length := by omega
      subst ej
      clear hV
      go_wp2_with fail
      go_ret
      exact ⟨rfl, HV.out.lb, HV.out.below⟩
end Go.Proofs.YtiiadibbkijnhaaGreatDoor
