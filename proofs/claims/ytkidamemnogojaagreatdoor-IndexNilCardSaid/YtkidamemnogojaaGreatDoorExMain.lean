/-
  The abstract machine: a closed call.
-/
import Derived.Test.YtkidamemnogojaaGreatDoorExRun
set_option linter.unusedVariables false
set_option linter.unusedSimpArgs false
namespace Go.Ex

section
variable {P : Program} {G : Nat} {X : FuncId → Option ExtK} {J : FuncId → Bool}

/-- A call that the abstract machine runs to its end. -/
theorem run_calls (hN : NoNum P) (hX : XOk P X) (hm : P.follows .mixedOrders = true) {f : FuncId} {args : List AV} {vs : Array Value} {fr : Fr} {hp : Tr Blk} {nx lb n : Nat} {wl : List Nat} {v : AV} {s' : St} {B : Nat} {σ : Sg} {w : World} (hv : isStopV v = false)
    (hent : enterA P f args = some fr) (hrun : run P G X J n { fr, cs := [], hp, nx, lb, wl } = some (v, s')) (hlow : Low hp nx) (ha : RL σ args vs.toList) (hrel : Rel B G σ hp w) (hB : B ≤ w.heap.size) (hf : Fresh σ nx s'.nx) :
    Calls P f vs w fun e w' => ∃ u τ, e = .returned u ∧ Rv τ v u ∧ Rel B G τ s'.hp w' ∧ Ext σ τ hp s'.hp nx s'.nx w w' := by
  intro cs
  obtain ⟨fnn, cc, a, h1, h2, h3, h4, h5, h6, h7⟩ := enter_ok hent ha
  obtain ⟨_, hends⟩ := run_ok (G := G) hN hX hm n _ _ _ hrun hlow
  obtain ⟨τ, w', u, g1, g2, g3, _, g5⟩ := (hends [] B σ fr.rd fr.fn none a [.code cc] [] cs w ⟨h4, .nil, hrel, hB, rfl, rfl⟩ hf).2 hv
  obtain ⟨fr', k1, k2, k3⟩ := g5 h6
  refine ⟨.returned u, w', fr', ⟨u, τ, rfl, g1, g2, g3⟩, ?_, k3.trans h7, k2⟩
  rw [mkF_run (by exact h5)] at k1
  rw [h3]
  exact k1

/-- A closed call that answers true: nothing that was there turns. -/
theorem run_true (hN : NoNum P) (hX : XOk P X) (hm : P.follows .mixedOrders = true) {f : FuncId} {fr : Fr} {hp : Tr Blk} {nx n : Nat} {σ : Sg} {w : World}
    {args : List AV} {vs : Array Value} (hent : enterA P f args = some fr) (hrun : (match run P G X J n { fr, cs := [], hp, nx, lb := 0, wl := [] } with | some (.bool b, _) => b | _ => false) = true) (ha : RL σ args vs.toList) (hlow : Low hp nx) (hrel : Rel w.heap.size G σ hp w) (hf : ∀ i, nx ≤ i → σ i = none) :
    Calls P f vs w fun e w' => e = .returned (.bool true) ∧ RowKit.Below w.heap.size w w' := by
  split at hrun
  · rename_i b s' hr
    subst hrun
    refine (run_calls (J := J) hN hX hm rfl hent hr hlow ha hrel (Nat.le_refl _) (fun i h _ => hf i h)).mono fun e w' h => ?_
    obtain ⟨u, τ, rfl, h1, h2, h3⟩ := h
    rw [h1.inv_bool]
    exact ⟨rfl, h3.below hrel (Nat.le_refl _)⟩
  · cases hrun
end

/-! ### The heap at the start -/
/-- Names below G stand for the package-level variables. -/
noncomputable def sg0 (P : Program) (w : World) (G : Nat) : Sg := fun i => if i < G then some (i, match w.heap[i]? with | some (.cells c _ _) => c.size | _ => 0) else none

theorem rel0 {P : Program} {w : World} {G : Nat} {hp : Tr Blk} (h : ∀ i b, hp.get i = some b → i < G ∧ ∃ l c t, b = .cells false false none l ∧ w.heap[i]? = some (.cells c t (0, 0)) ∧ RL (sg0 P w G) l c.toList ∧ ∀ u, u ∈ c.toList → oneC u = true) :
    Rel w.heap.size G (sg0 P w G) hp w := by
  refine ⟨fun i b hb => ?_, fun i j b c k z z' hi hj hsi hsj => ?_, fun g hg => ⟨_, by simp [sg0, hg]; rfl⟩⟩
  · obtain ⟨hlt, l, c, t, rfl, hh, hl, h1⟩ := h i b hb
    have hlen : l.length = c.size := by simpa using hl.1
    refine ⟨i, c.size, _, by simp [sg0, hlt, hh], hh, .cells false false none l c t (0, 0) (fun a h => by cases h) rfl (fun _ => hlen) (Nat.le_of_eq hlen) (fun _ _ hx => Nat.not_lt_zero _ hx.2) (fun j v hv => h1 v (List.mem_of_getElem? (by simpa using hv))) ?_, fun hw => by cases hw⟩
    intro j x hx
    obtain ⟨v, hv, hxv⟩ := hl.get hx
    exact ⟨v, by simpa using hv, hxv⟩
  · have h1 := (h i b hi).1
    have h2 := (h j c hj).1
    simp only [sg0, h1, h2, if_true, Option.some.injEq, Prod.mk.injEq] at hsi hsj
    omega
end Go.Ex
