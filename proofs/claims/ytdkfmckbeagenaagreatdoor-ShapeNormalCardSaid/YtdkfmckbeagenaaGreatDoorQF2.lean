/-
  What a slice of numbers, a text, a number that comes in is. No program.
 A parameter that is a filter. No program.
-/
import Derived.Test.YtdkfmckbeagenaaGreatDoorQA1
import Derived.ChangeSlices
import Derived.ChangeMaps5
import Derived.ChangeShapes
import Derived.WideShapes
import GoSem.ClaimJoined
import Derived.Test.YtdkfmckbeagenaaGreatDoorExArgs
import Derived.JoinedOf
import Derived.Test.YtdkfmckbeagenaaGreatDoorQA2
namespace Go.RankLaw
open Go.RowKit Go.ChangeShapes Go.WideShapes Go.ChangeMaps

structure OkV (P : Program) (W : World) (b0 : Nat) (t : TypeId) (v : Value) : Prop where
 ok : Value.okWide P W .any b0 t v
theorem okV_at {P : Program} {W : World} {b0 : Nat} {ts : Array TypeId} {vs : Array Value} (h : Go.Ex.ArgsOk P W b0 ts vs) {j : Nat} {t : TypeId} {v : Value} (h1 : ts[j]? = some t) (h2 : vs[j]? = some v) : OkV P W b0 t v := ⟨h.ok j t v h1 h2⟩
section
variable {H : Type} {enc : TypeId × Value → H} {P : Program} {W : World} {b0 : Nat}

end
end Go.RankLaw

namespace Go.FltLaw
open Go.RowKit Go.ChangeShapes Go.WideShapes Go.Deep Go.RankLaw

section
variable {H : Type} {enc : TypeId × Value → H} {P : Program} {W : World} {b0 : Nat}
theorem flt_arg {tf ts : TypeId} {f0 f1 f2 f3 f4 f5 f6 f7 f8 : Field} {v : Value} {d : DataW H} {p : List MemPlace} (hF : P.underlying tf = some (.struct #[f0, f1, f2, f3, f4, f5, f6, f7, f8])) (hone : oneCellFields P #[f0, f1, f2, f3, f4, f5, f6, f7, f8] = true)
  (hC : P.cellsOf tf = 9) (hB : P.bytesOf tf = 144) (h0 : P.underlying f0.type = some (.int .i8)) (h1 : P.underlying f1.type = some (.slice tf)) (h2 : P.underlying f2.type = some .string) (h3 : P.underlying f3.type = some .string)
  (h4 : P.underlying f4.type = some .string) (h5 : P.underlying f5.type = some (.slice ts)) (h6 : P.underlying f6.type = some .string) (h7 : P.underlying f7.type = some .string) (h8 : P.underlying f8.type = some .bool)
  (hs : P.underlying ts = some .string) (hsc : P.cellsOf ts = 1) (hsb : P.bytesOf ts = 16)
  (hval : OkV P W b0 tf v) (hd : DataW.Trod enc P W 0 (fun _ => true) true tf v d p) (hw : ∀ x ∈ d.weights P tf, x ≤ reachBytes) :
  ∃ (n : Nat) (f : Flt), FAt false W 0 W.heap.size n f v := by
 obtain ⟨cs, rfl, _⟩ := okWide_struct hF hval.ok
 obtain ⟨fuel, hf⟩ := hd
 obtain ⟨f, hfa⟩ := flt_in hF hone hC hB h0 h1 h2 h3 h4 h5 h6 h7 h8 hs hsc hsb fuel _ d p hf hw
 exact ⟨fuel, f, by simpa [Value.cells] using hfa⟩
end
end Go.FltLaw
