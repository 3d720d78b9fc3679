/-
  A parameter that is Moods (rosterlaw17): its six cells. No program.
-/
import Derived.Test.YtjclahnbohdcpaaGreatDoorRankIn
import Derived.Laws.Cover2
namespace Go.RankLaw
open Go.RowKit Go.ChangeShapes Go.WideShapes Go.ChangeMaps

section
variable {H : Type} {enc : TypeId × Value → H} {P : Program} {W : World} {b0 : Nat}

theorem trod_float_form {t : TypeId} {k : FloatKind} {n : Nat} {c : Value} {y : DataW H × List MemPlace} (ht : P.underlying t = some (.float k)) (h : DataW.trod enc P W 0 (fun _ => true) true n t [c] = some y) : ∃ b, c = .float k b := by
  cases n with
  | zero => simp [DataW.trod] at h
  | succ n =>
    unfold DataW.trod at h
    rw [ht] at h
    cases c <;> simp at h
    obtain ⟨⟨rfl, _⟩, _⟩ := h
    exact ⟨_, rfl⟩

theorem moods_in {tm te : TypeId} {f0 f1 f2 f3 f4 f5 : Field} {v : Value} {d : DataW H} {p : List MemPlace} (hF : P.underlying tm = some (.struct #[f0, f1, f2, f3, f4, f5])) (hC : P.cellsOf tm = 6)
    (ho : [f0, f1, f2, f3, f4, f5].map (·.offset) = [0, 1, 2, 3, 4, 5]) (hc : [f0, f1, f2, f3, f4, f5].map (fun f => P.cellsOf f.type) = [1, 1, 1, 1, 1, 1])
    (h0 : P.underlying f0.type = some (.int .u64)) (h1 : P.underlying f1.type = some .bool) (h2 : P.underlying f2.type = some (.slice te)) (h3 : P.underlying f3.type = some (.float .f64)) (h4 : P.underlying f4.type = some .bool) (h5 : P.underlying f5.type = some .bool)
    (hval : OkV P W b0 tm v) (hd : DataW.Trod enc P W 0 (fun _ => true) true tm v d p) :
    ∃ (c : Int) (ix : Bool) (A : Option Addr) (n m : Nat) (a : Nat) (nc ng : Bool), v = .agg #[.int .u64 c, .bool ix, .slice A n m, .float .f64 a, .bool nc, .bool ng] := by
  obtain ⟨cs, rfl, _⟩ := okWide_struct hF hval.ok
  obtain ⟨fuel, hf⟩ := hd
  obtain ⟨xs, n, rfl, hx, hl, hlen, hf⟩ := DataW.trod_struct hF hf
  simp only [Value.cells] at hl hf
  rw [hC] at hl
  obtain ⟨cs⟩ := cs
  simp only [List.map_cons, List.map_nil, List.cons.injEq, and_true] at ho hc
  obtain ⟨o0, o1, o2, o3, o4, o5⟩ := ho
  obtain ⟨k0, k1, k2, k3, k4, k5⟩ := hc
  match xs, hlen, cs, hl with
  | [y0, y1, y2, y3, y4, y5], _, [c0, c1, c2, c3, c4, c5], _ =>
    have g0 : DataW.trod enc P W 0 (fun _ => true) true n f0.type [c0] = some y0 := by simpa [o0, k0] using hf 0 f0 rfl
    have g1 : DataW.trod enc P W 0 (fun _ => true) true n f1.type [c1] = some y1 := by simpa [o1, k1] using hf 1 f1 rfl
    have g2 : DataW.trod enc P W 0 (fun _ => true) true n f2.type [c2] = some y2 := by simpa [o2, k2] using hf 2 f2 rfl
    have g3 : DataW.trod enc P W 0 (fun _ => true) true n f3.type [c3] = some y3 := by simpa [o3, k3] using hf 3 f3 rfl
    have g4 : DataW.trod enc P W 0 (fun _ => true) true n f4.type [c4] = some y4 := by simpa [o4, k4] using hf 4 f4 rfl
    have g5 : DataW.trod enc P W 0 (fun _ => true) true n f5.type [c5] = some y5 := by simpa [o5, k5] using hf 5 f5 rfl
    obtain ⟨c, e0, _, _⟩ := DataW.trod_int h0 g0
    obtain ⟨ix, e1, _⟩ := DataW.trod_bool h1 g1
    obtain ⟨a, e3⟩ := trod_float_form h3 g3
    obtain ⟨nc, e4, _⟩ := DataW.trod_bool h4 g4
    obtain ⟨ng, e5, _⟩ := DataW.trod_bool h5 g5
    simp only [List.cons.injEq, and_true] at e0 e1 e4 e5
    subst e0 e1 e3 e4 e5
    rcases DataW.trod_slice h2 g2 with ⟨e2, _⟩ | ⟨A, len, cap, _, _, _, _, e2, _⟩
    · simp only [List.cons.injEq, and_true] at e2
      subst e2
      exact ⟨_, _, _, _, _, _, _, _, rfl⟩
    · simp only [List.cons.injEq, and_true] at e2
      subst e2
      exact ⟨_, _, _, _, _, _, _, _, rfl⟩
end
end Go.RankLaw
