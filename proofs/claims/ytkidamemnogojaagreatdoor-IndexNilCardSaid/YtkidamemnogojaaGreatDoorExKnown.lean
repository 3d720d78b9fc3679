/-
  The abstract machine: functions that are known, whose answers make memory.
-/
import Derived.Test.YtkidamemnogojaaGreatDoorExFrame
set_option linter.unusedVariables false
set_option linter.unusedSimpArgs false
namespace Go.Ex

section
variable {P : Program} {B G : Nat} {σ : Sg} {hp : Tr Blk} {nx : Nat} {w : World}

theorem digits_one : ∀ (n t : Nat) (acc : Array Value), (∀ v, v ∈ acc.toList → oneC v = true) → ∀ v, v ∈ (Extern.BytealgMakeNoZero.digits n t acc).toList → oneC v = true := by
  intro n
  induction n with
  | zero => intro t acc h v hv; exact h v hv
  | succ n ih =>
    intro t acc h v hv
    refine ih (t / 256) (acc.push (.int .u8 (Int.ofNat (t % 256)))) (fun u hu => ?_) v hv
    simp only [Array.toList_push, List.mem_append, List.mem_singleton] at hu
    rcases hu with hu | rfl
    · exact h u hu
    · rfl

theorem run_makeNoZero1 (w : World) (ps : Array TypeId) (t e : TypeId) (ht : P.underlying t = some (.slice e)) (n : Nat) (hn : n ≤ 281474976710656) :
    ∃ cs : Array Value, (Extern.BytealgMakeNoZero.makeNoZero ps #[t] #[.int .i64 n]).run P w = .ok (.slice (some ⟨w.heap.size, 0, none⟩) n cs.size) (w.drew.drew.alloc (.cells cs e)) ∧ n ≤ cs.size ∧ ∀ v, v ∈ cs.toList → oneC v = true := by
  have hdef : Extern.BytealgMakeNoZero.makeNoZero ps #[t] #[.int .i64 n] =
      (do
        let .slice elem ← underlying t | stuck "bytealg.MakeNoZero: slice type expected"
        if (n : Int) < 0 || (n : Int) > 2 ^ 48 then runtimePanic (.error "makeslice: len out of range")
        let cap ← choose (.appendCap (n : Int).toNat 0 elem)
        askRoom cap
        let bytes ← choose (.extern "internal/bytealg.MakeNoZero.bytes" 0)
        let a ← newRow elem (Extern.BytealgMakeNoZero.digits cap bytes #[])
        pure (.slice (some a) (n : Int).toNat cap)) := rfl
  refine ⟨Extern.BytealgMakeNoZero.digits (grownCap w n 0 e) ((Question.extern "internal/bytealg.MakeNoZero.bytes" 0).cut (w.tape (w.drawn + 1) (.extern "internal/bytealg.MakeNoZero.bytes" 0))) #[], ?_, ?_, digits_one _ _ _ (by simp)⟩
  · rw [hdef]
    have h1 : ¬ (n : Int) < 0 := by omega
    have h2 : ¬ (281474976710656 : Int) < (n : Int) := by omega
    simp [run_underlying ht, h1, h2, Question.forced, newRow, Lib.size_digits, grownCap]
  · rw [Lib.size_digits]
    simpa using grownCap_ge w n 0 e

/-- What is to be shown of a function that is known. -/
def KnownOk (P : Program) (g : FuncId) (k : ExtK) : Prop := ∀ (B G : Nat) (σ : Sg) (hp : Tr Blk) (nx : Nat) (w : World) (args : List AV) (vs : Array Value) (r : R),
  Rel B G σ hp w → B ≤ w.heap.size → RL σ args vs.toList → extA G hp nx k args = some r → Fresh σ nx r.nx → OkX P B G σ hp nx w g vs r

theorem repl_one (n : Nat) : ∀ (i : Nat) x, (repl n [AV.junk])[i]? = some x → x = .junk := by
  induction n with
  | zero => intro i x h; simp [repl_z] at h
  | succ n ih =>
    intro i x h
    rw [repl_c] at h
    cases i with
    | zero => simp at h; exact h.symm
    | succ i => exact ih i x (by simpa using h)

theorem known_makeNoZero {g : FuncId} {fn : Func} {ps : Array TypeId} {t e : TypeId} (h1 : P.funcs[g]? = some fn) (h2 : (fn.name == "runtime.NumGoroutine") = false) (h3 : fn.body.isNone = true) (h4 : Extern.findNext fn = none)
    (h5 : Extern.find fn = some (Extern.BytealgMakeNoZero.makeNoZero ps #[t])) (ht : P.underlying t = some (.slice e)) : KnownOk P g (.makeNoZero e) := by
  intro B G σ hp nx w args vs r hr hB ha hx hf
  unfold extA at hx
  split at hx
  any_goals (rename_i heq; cases heq; done)
  · rename_i e' n hk
    simp only [ExtK.makeNoZero.injEq] at hk; subst hk
    rcases cond_eq_some hx with ⟨hb, h⟩ | ⟨_, h⟩
    · have hb := blt_iff.1 hb
      simp only [rnew, Option.some.injEq] at h; subst h
      obtain ⟨v, hvs, hv⟩ := ha.one
      have hvs2 : vs = #[v] := list1 hvs
      subst hvs2
      rw [hv.inv_int]
      obtain ⟨cs, hrun, hle, hone⟩ := run_makeNoZero1 (P := P) w ps t e ht n (by omega)
      have hn := hf nx (Nat.le_refl _) (Nat.lt_succ_self _)
      have hlen : (repl n [AV.junk]).length = n := by rw [repl_length]; simp
      obtain ⟨q1, q2⟩ := hr.new (z := cs.size) (nx := nx) (b := .cells true true (some e) (repl n [.junk])) (o := .cells cs e) (w' := w.drew.drew.alloc (.cells cs e)) hB hn
        (.cells true true (some e) _ cs e (0, 0) (fun a h => by cases h; rfl) rfl (fun h => by cases h) (by omega) (fun _ _ h => Nat.not_lt_zero _ h.2) (fun i v hv => hone v (List.mem_of_getElem? (by simpa using hv)))
          (fun i x hx => by
            have hi : i < n := by rw [← hlen]; exact (List.getElem?_eq_some_iff.1 hx).1
            rw [repl_one n i x hx]
            exact ⟨cs[i], by simp [show i < cs.size by omega], .junk _⟩)) rfl rfl rfl rfl
      refine fun _ => ⟨_, _, _, .inl (.inl ?_), .slo nx 0 n cs.size 1 _ cs.size (Sg.put_same _ _ _) (by omega), q1, q2⟩
      rw [run_callFunc_extern h1 h2 h3 h4 h5]
      rw [show (Int.ofNat n) = ((n : Nat) : Int) from rfl, hrun]
      rfl
    · cases h
  · cases hx
end
end Go.Ex
