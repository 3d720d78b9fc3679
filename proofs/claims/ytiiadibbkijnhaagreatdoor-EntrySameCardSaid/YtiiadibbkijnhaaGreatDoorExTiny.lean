/-
  The abstract machine: sort.Slice of no element or one.
-/
import Derived.Test.YtiiadibbkijnhaaGreatDoorExStep2
import Derived.Shelf.GgSortFunc.Tiny
set_option linter.unusedVariables false
set_option linter.unusedSimpArgs false
namespace Go.Ex
open Go.Proofs Go.Sort

theorem known_tiny {P : Program} {ρ : Shelf.Ren} (L : LaysGg.n6 P ρ) {fn : Func} {c : Code} (h1 : P.funcs[ρ.f 6]? = some fn) (h2 : fn.body = some c) (t e : TypeId) (i ie : TypeInfo) (hi : P.info? t = some i) (hd : i.desc = .slice e) (hpk : P.packed t = false) (hie : P.info? e = some ie) (ke : Nat) (hke : ∀ w, (Extern.Rtype.kind e).run P w = .ok ke w)
    (f0 f1 : Nat) (hf0 : P.funcs.findIdx? (·.name == "internal/reflectlite" ++ ".Swapper$" ++ toString (Lib.swapperK 0 ie ke)) = some f0) (hf1 : P.funcs.findIdx? (·.name == "internal/reflectlite" ++ ".Swapper$" ++ toString (Lib.swapperK 1 ie ke)) = some f1) : KnownOk P (ρ.f 6) (.tiny t) := by
  intro B G σ hp nx w args vs r hr hB ha hx hf cs
  unfold extA at hx
  split at hx
  any_goals (rename_i heq; cases heq; done)
  · rename_i t0 t' id off n cap es g a b hk
    simp only [ExtK.tiny.injEq] at hk; subst hk
    rcases cond_eq_some hx with ⟨hb, h⟩ | ⟨_, h⟩
    · simp only [Bool.and_eq_true] at hb
      have e1 := beq_iff.1 hb.1
      have hn := blt_iff.1 hb.2
      subst e1
      rw [rv_some h]
      obtain ⟨v, u, hvs, hv, hu⟩ := ha.two
      rw [list2 hvs]
      obtain ⟨v', hv', rfl⟩ := hv.inv_iface
      obtain ⟨bk, z, cc, hσ, rfl⟩ := hv'.inv_sl
      obtain ⟨va, vb, _, _, rfl⟩ := hu.inv_fn
      obtain ⟨ff, hff⟩ : ∃ ff, P.funcs.findIdx? (·.name == "internal/reflectlite" ++ ".Swapper$" ++ toString (Lib.swapperK n ie ke)) = some ff := by
        have : n = 0 ∨ n = 1 := by omega
        rcases this with rfl | rfl
        · exact ⟨f0, hf0⟩
        · exact ⟨f1, hf1⟩
      obtain ⟨e', w', fr, ⟨rfl, os, rfl⟩, hst, hfn, hlv⟩ := Any.sort_Slice_tiny L t' e i ie hi hd hpk hie ke hke (some ⟨bk, off, none⟩) n cc (by omega) ff hff (.func g) va.toArray vb.toArray w cs
      have hkeep : ∀ k, k < w.heap.size → (grow w os).heap[k]? = w.heap[k]? := fun k hk => by simp [grow, Array.getElem?_append_left hk]
      refine ⟨σ, grow w os, .tuple #[], .inr ⟨fn, c, h1, h2, fr, hst, hlv⟩, .tup [] [] rfl (by simp), ⟨fun j b hj => ?_, hr.inj, hr.gl⟩, ⟨.refl σ, fun _ _ h => .inl h, Nat.le_refl _, rfl, rfl, rfl, by simp [grow], fun k hk _ => hkeep k hk, fun j b k z hb hs => .inl ⟨j, b, z, hb, hs, fun e => e⟩⟩⟩
      obtain ⟨k, z, o, q1, q2, q3, q4⟩ := hr.blk j b hj
      exact ⟨k, z, o, q1, by rw [hkeep k (Array.getElem?_eq_some_iff.1 q2).1]; exact q2, q3, q4⟩
    · cases h
  · cases hx
end Go.Ex
