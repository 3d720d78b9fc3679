/-
  rosterlaw22.RankNames answers true: the card, tied to the program's text. A closed call: the abstract machine runs it. Conditions: the listed package-level variables hold what the program's text lays.
-/
import Derived.Test.YtdocondniobcdaaGreatDoorCards
import Derived.Test.YtdocondniobcdaaGreatDoorTie
import Derived.Test.YtdocondniobcdaaGreatDoorNamesWit
import Derived.Test.YtdocondniobcdaaGreatDoorNamesRun
import Derived.Test.YtdocondniobcdaaGreatDoorRankNamesF5
namespace Go.Proofs.YtdocondniobcdaaGreatDoor
open Go.ChangeShapes Go.WideShapes Go.ChangeAt Go.RowKit

theorem names_contract (H : Type) (enc : TypeId × Value → H) (W : World) (args : Array Value) (ds gs : List (DataW H)) (before : List MemPlace)
    (hW : DataW.Whole enc Tryz.prog Tryz.f5.params.toList Rows.rankNamesSpec.vars false W args.toList ds gs before) (hL : laidMetH Tryz.prog Rows.rankNamesRow.laid W) :
    Calls Tryz.prog 5 args W fun e W' => ∃ v, e = .returned v ∧ Rows.rankNamesSpec.post enc Tryz.prog Tryz.f5 false true false false W args v W' := by
  have hW' := hW
  obtain ⟨p, q, hA0, hV, rfl, hfz, hnd⟩ := hW
  have hA : DataW.TrodAll enc Tryz.prog W 0 (fun _ => true) true Tryz.f5.params.toList args.toList ds p := hA0
  rw [Tryz.params5] at hA
  obtain ⟨hargs, rfl, rfl⟩ := trodAll_nil hA
  obtain rfl : args = #[] := by cases args; simp_all
  obtain ⟨rfl, rfl⟩ := trodVars_none hV
  have hv := vars_ok (laid := Rows.rankNamesRow.laid) noHandles (by kernel_rfl) (by kernel_rfl) hL
  refine (Go.Ex.calls_true noNum extOk mixed namesRan hv).mono fun e W' ⟨he, hb⟩ => ?_
  subst he
  exact ⟨_, rfl, [], [], [], [], [], [], hW', trodAll_cons_mk (shut_bool Tryz.underlying4 _) trodAll_mk0, trodAll_mk0, rfl, hb.frame _, fun h => by cases h⟩

theorem names_row (os : Os) {H : Type} (enc : TypeId × Value → H) : (OpenSpec.ofChange Rows.rankNamesSpec).preRow enc Tryz.prog Tryz.f5 Rows.rankNamesRow.domain false Rows.rankNamesRow.laid (wOf os #[]) #[] :=
  OpenSpec.preRow_of_cond 8 (names_reads os enc) (by kernel_rfl) (fun k hk => by cases hk) (by kernel_rfl) (names_w5 os)

theorem names_wit (os : Os) {H : Type} (enc : TypeId × Value → H) : ∃ (w : World) (tape : Tape) (i : Input), w.os = os ∧ (w.forCall tape i).Shaped Tryz.checked.prog ∧ i.vars = [] ∧ Input.okWide Tryz.checked.prog (w.forCall tape i) .any w.heap.size 5 i ∧
      (OpenSpec.ofChange Rows.rankNamesSpec).preRow enc Tryz.checked.prog Tryz.f5 Rows.rankNamesRow.domain false Rows.rankNamesRow.laid (w.forCall tape i).memory i.args ∧ ({ } : Assume).holds Tryz.checked.prog (lone (Frame.enter Tryz.checked.prog 5 i.args .normal) [] (w.forCall tape i)) :=
  witness_row_atRef (enc := enc) (C := Tryz.checked) false (laidWorld os) #[] (names_w6 os) (names_w1 os) (names_w2 os) (names_w3 os) (names_row os enc)

theorem names_contr (os : Os) (started : os.Started) (H : Type) (enc : TypeId × Value → H) (F : Stop.Interp) (hw : ∃ (w : World) (tape : Tape) (i : Input), w.os = os ∧ (w.forCall tape i).Shaped Tryz.checked.prog ∧ i.vars = [] ∧ Input.okWide Tryz.checked.prog (w.forCall tape i) .any w.heap.size 5 i ∧
      (OpenSpec.ofChange Rows.rankNamesSpec).preRow enc Tryz.checked.prog Tryz.f5 Rows.rankNamesRow.domain false Rows.rankNamesRow.laid (w.forCall tape i).memory i.args ∧ ({ } : Assume).holds Tryz.checked.prog (lone (Frame.enter Tryz.checked.prog 5 i.args .normal) [] (w.forCall tape i))) :
    ReturnsInHanded {} Tryz.checked os 5 .any ((OpenSpec.ofChange Rows.rankNamesSpec).preRow enc Tryz.prog Tryz.f5 Rows.rankNamesRow.domain false Rows.rankNamesRow.laid) (((OpenSpec.ofChange Rows.rankNamesSpec).at F).post enc Tryz.prog Tryz.f5 false true false false) := by
  refine returnsInHanded_of_row (C := Tryz.checked) (s := OpenSpec.ofChange Rows.rankNamesSpec) own started (by kernel_rfl) Tryz.func5 hw ?_
  intro W base args ds gs before hval hW _ _ _ hL _ _
  exact names_contract H enc W args ds gs before hW hL

theorem names_lifted (os : Os) (started : os.Started) (H : Type) (enc : TypeId × Value → H) (F : Stop.Interp) :
    ReturnsInHanded {} Tryz.checked os 5 .any ((OpenSpec.ofChange Rows.rankNamesSpec).preRow enc Tryz.prog Tryz.f5 Rows.rankNamesRow.domain false Rows.rankNamesRow.laid) (((OpenSpec.ofChange Rows.rankNamesSpec).at F).post enc Tryz.prog Tryz.f5 false true false false) :=
  names_contr os started H enc F (names_wit os enc)

theorem names_said : Rows.RankNamesSaid :=
  OpenClaim.holds_of_cond 5 Tryz.f5 rfl rfl rfl rfl rfl rfl rfl ⟨rfl, rfl, rfl, rfl, rfl⟩ rfl rfl rfl rfl rfl (by kernel_rfl) Tryz.func5 rankNames_facts rankNames_inst rankNames_wrap
    (fun os started H enc _ F => by rw [OpenClaim.pre_eq_preRow]; exact names_lifted os started H enc F)

theorem names_plain (f : FuncId) (fn : Func) (hf : Tryz.pinned.checked.prog.funcNamed "roster/rosterlaw22.RankNames" = some f) (hfn : Tryz.pinned.checked.prog.funcs[f]? = some fn) :
    true = Tryz.pinned.checked.prog.looks [] ∧ ∀ (j : Nat) t, fn.params[j]? = some t → Tryz.pinned.checked.prog.wantsStandIn t = false := by
  obtain rfl : f = 5 := Option.some.inj ((show Tryz.prog.funcNamed "roster/rosterlaw22.RankNames" = some 5 by kernel_rfl).symm.trans hf) |>.symm
  obtain rfl : fn = Tryz.f5 := (Option.some.inj (Tryz.func5.symm.trans hfn)).symm
  refine ⟨by kernel_rfl, fun j t ht => ?_⟩
  rw [Tryz.params5] at ht
  simp at ht

/-- THE CARD. -/
theorem rankNames : Rows.RankNamesCardSaid :=
  Claim7.holds_tied_plain_at .later [] _ _ _ _ names_said (fun _ h => by cases h) (by kernel_rfl) (fun _ h => by cases h) rankNames_row_tie rfl ⟨rfl, rfl⟩ (by kernel_rfl) rfl names_plain (by kernel_rfl)
end Go.Proofs.YtdocondniobcdaaGreatDoor
