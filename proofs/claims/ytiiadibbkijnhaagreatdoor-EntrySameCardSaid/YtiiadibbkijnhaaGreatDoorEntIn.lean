/-
  A parameter that is an entry. No program.
-/
import Derived.Test.YtiiadibbkijnhaaGreatDoorEntAt
import Derived.Test.YtiiadibbkijnhaaGreatDoorRankIn
namespace Go.EntLaw
open Go.RowKit Go.ChangeShapes Go.WideShapes Go.Deep Go.RankLaw Go.FltLaw

section
variable {H : Type} {enc : TypeId × Value → H} {P : Program} {W : World} {b0 : Nat}
theorem ent_arg {te ta ts : TypeId} {g0 f0 f1 : Field} {v : Value} {d : DataW H} {p : List MemPlace} (hE : P.underlying te = some (.struct #[g0])) (honeE : oneCellFields P #[g0] = true) (hCE : P.cellsOf te = 1) (hg : P.underlying g0.type = some (.slice ta))
    (hF : P.underlying ta = some (.struct #[f0, f1])) (hone : oneCellFields P #[f0, f1] = true) (hC : P.cellsOf ta = 2) (hB : P.bytesOf ta = 40)
    (h0 : P.underlying f0.type = some .string) (h1 : P.underlying f1.type = some (.slice ts)) (hs : P.underlying ts = some .string) (hsc : P.cellsOf ts = 1) (hsb : P.bytesOf ts = 16)
    (hval : OkV P W b0 te v) (hd : DataW.Trod enc P W 0 (fun _ => true) true te v d p) (hw : ∀ x ∈ d.weights P te, x ≤ reachBytes) :
    ∃ (l : List Atr) (KA : Option Addr) (kc : Nat), v = ent KA l.length kc ∧ EAt W 0 W.heap.size l KA kc := by
  obtain ⟨cs, rfl, _⟩ := okWide_struct hE hval.ok
  obtain ⟨fuel, hf⟩ := hd
  obtain ⟨xs, n, rfl, hx, hl, hlen, hg'⟩ := DataW.trod_struct hE hf
  rw [hCE] at hl
  match xs, hlen, hl with
  | [y0], _, hl =>
    simp only [Prod.mk.injEq] at hx
    obtain ⟨rfl, rfl⟩ := hx
    obtain ⟨o0, k0⟩ := hone_of honeE 0 g0 rfl
    obtain ⟨c0, hc⟩ : ∃ c0, cs.toList = [c0] := by
      match hq : cs.toList, hl with
      | [c0], _ => exact ⟨c0, rfl⟩
      | [], h => simp at h
      | _ :: _ :: _, h => simp at h
    have g0' : DataW.trod enc P W 0 (fun _ => true) true n g0.type [c0] = some y0 := by simpa [o0, k0, Value.cells, hc] using hg' 0 g0 rfl
    obtain ⟨l, KA, kc, e, he⟩ := atrs_in hg hF hone hC hB h0 h1 hs hsc hsb (d := y0.1) (p := y0.2) g0' (fun x hx => hw x (by
      simp only [DataW.weights, hE, List.map_cons, List.map_nil, DataW.weightsEach, List.mem_append]
      exact .inl hx))
    refine ⟨l, KA, kc, ?_, he⟩
    have : cs = #[.slice KA l.length kc] := by
      rw [← Array.toArray_toList (xs := cs), hc, e]
    rw [this]
end
end Go.EntLaw
