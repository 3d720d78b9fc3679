/-
  What a slice of numbers, a text, a number that comes in is. No program.
-/
import Derived.Test.YtiiadibbkijnhaaGreatDoorRankWords
import Derived.ChangeSlices
import Derived.ChangeMaps5
import Derived.ChangeShapes
import Derived.WideShapes
import GoSem.ClaimJoined
import Derived.Test.YtiiadibbkijnhaaGreatDoorExArgs
import Derived.JoinedOf
namespace Go.RankLaw
open Go.RowKit Go.ChangeShapes Go.WideShapes Go.ChangeMaps

/-- A value that fits its type (a structure: so that Lean does not look into it). -/
structure OkV (P : Program) (W : World) (b0 : Nat) (t : TypeId) (v : Value) : Prop where
  ok : Value.okWide P W .any b0 t v
theorem okV_at {P : Program} {W : World} {b0 : Nat} {ts : Array TypeId} {vs : Array Value} (h : Go.Ex.ArgsOk P W b0 ts vs) {j : Nat} {t : TypeId} {v : Value} (h1 : ts[j]? = some t) (h2 : vs[j]? = some v) : OkV P W b0 t v := ⟨h.ok j t v h1 h2⟩

section
variable {H : Type} {enc : TypeId × Value → H} {P : Program} {W : World} {b0 : Nat}

theorem lits_len (k : IntKind) (zs : List Int) : (lits (H := H) k zs).length = zs.length := by simp [lits]

theorem ints_in {t e : TypeId} {k : IntKind} {v : Value} {d : DataW H} {p : List MemPlace} (ht : P.underlying t = some (.slice e)) (he : P.underlying e = some (.int k)) (hc : P.cellsOf e = 1) (hb : P.bytesOf e = 8)
    (hval : OkV P W b0 t v) (hd : DataW.Trod enc P W 0 (fun _ => true) true t v d p) (hw : ∀ x ∈ d.weights P t, x ≤ reachBytes) :
    ∃ (A : Option Addr) (len c : Nat) (xs : List Int), v = .slice A len c ∧ Rd W W.heap.size A len (xs.map (Value.int k)) ∧ xs.length = len ∧ len ≤ c ∧ c ≤ 9223372036854775807 ∧ len * 8 ≤ 140737488351232 ∧ ∀ z ∈ xs, (Lit.int k z).wf = true := by
  obtain ⟨a0, len, cap, rfl⟩ := okWide_slice ht hval.ok
  obtain ⟨fuel, hf⟩ := hd
  rcases open_ints ht he hc hf with ⟨hcs, hx⟩ | ⟨a, len', cap', zs, hcs, _, hl, hm, hz, hx, hcell, hwz⟩
  · simp [Value.cells] at hcs
    obtain ⟨rfl, rfl, rfl⟩ := hcs
    exact ⟨none, 0, 0, [], rfl, ⟨rfl, fun h => absurd h (by omega)⟩, rfl, Nat.le_refl _, by omega, by omega, fun z hz => by cases hz⟩
  · simp [Value.cells] at hcs
    obtain ⟨rfl, rfl, rfl⟩ := hcs
    simp only [Prod.mk.injEq] at hx
    obtain ⟨rfl, rfl⟩ := hx
    simp only [if_true] at hz
    have hreach := hw (zs.length * 8) (by
      simp only [DataW.weights, ht, hb, lits_len]
      refine List.mem_cons.2 (.inl ?_)
      rw [List.length_take, List.length_drop]
      congr 1
      omega)
    have hr8 : zs.length * 8 ≤ 140737488351232 := by unfold reachBytes at hreach; omega
    unfold maxLen at hm
    refine ⟨some a, len, cap, zs.take len, rfl, ⟨by simp; omega, fun hn => ?_⟩, by simp; omega, hl, by omega, by omega, fun z hz => hwz z (List.mem_of_mem_take hz)⟩
    refine ⟨a, rfl, ?_, fun j u hu => ?_⟩
    · have h0 := hcell 0 (by omega)
      have := World.block_lt_of_cell? W _ h0
      rw [add_block] at this
      exact this
    · rw [List.getElem?_map, List.getElem?_take] at hu
      split at hu
      · rename_i hj
        have hj' : j < zs.length := by omega
        rw [List.getElem?_eq_getElem hj'] at hu
        simp only [Option.map_some, Option.some.injEq] at hu
        rw [hcell j hj', ← hu]
        simp [List.getD, List.getElem?_eq_getElem hj']
      · cases hu

theorem string_in {t : TypeId} {v : Value} {d : DataW H} {p : List MemPlace} (ht : P.underlying t = some .string) (hval : OkV P W b0 t v) (hd : DataW.Trod enc P W 0 (fun _ => true) true t v d p) (hw : ∀ x ∈ d.weights P t, x ≤ reachBytes) :
    ∃ l : List UInt8, v = .string ⟨l.toArray⟩ ∧ l.length ≤ 140737488351232 := by
  obtain ⟨s, rfl, rfl, rfl, hs⟩ := open_string ht hval.ok hd
  have := hw s.data.toList.length (by simp [DataW.weights])
  unfold reachBytes at this
  exact ⟨s.data.toList, by simp, by omega⟩

theorem int_in {t : TypeId} {v : Value} {d : DataW H} {p : List MemPlace} (ht : P.underlying t = some (.int .i64)) (hval : OkV P W b0 t v) (hd : DataW.Trod enc P W 0 (fun _ => true) true t v d p) :
    ∃ n : Int, v = .int .i64 n ∧ -9223372036854775808 ≤ n ∧ n ≤ 9223372036854775807 := by
  obtain ⟨n, rfl, rfl, rfl, hw⟩ := open_int ht hval.ok hd
  simp [Lit.wf, IntKind.min, IntKind.max, IntKind.signed, IntKind.bits] at hw
  exact ⟨n, rfl, by omega, by omega⟩
end
end Go.RankLaw
