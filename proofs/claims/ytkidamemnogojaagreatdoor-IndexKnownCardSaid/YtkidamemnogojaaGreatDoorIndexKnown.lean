/-
  roster/rosterlaw14.IndexKnown answers true: the card, tied to the program's text. A closed call: the abstract machine runs it. Conditions: the listed package-level variables hold what the program's text lays.
-/
import Derived.Test.YtkidamemnogojaaGreatDoorCards
import Derived.Test.YtkidamemnogojaaGreatDoorTie
import Derived.Test.YtkidamemnogojaaGreatDoorIndexKnownWit
import Derived.Test.YtkidamemnogojaaGreatDoorKnownP
import Derived.Test.YtkidamemnogojaaGreatDoorIndexKnownF5
namespace Go.Proofs.YtkidamemnogojaaGreatDoor
open Go.ChangeShapes Go.WideShapes Go.ChangeAt Go.RowKit

theorem indexKnown_contract (H : Type) (enc : TypeId × Value → H) (W : World) (args : Array Value) (ds gs : List (DataW H)) (before : List MemPlace)
    (hW : DataW.Whole enc Tryz.prog Tryz.f4.params.toList Rows.indexKnownSpec.vars false W args.toList ds gs before) (hL : laidMetH Tryz.prog Rows.indexKnownRow.laid W) :
    Calls Tryz.prog 4 args W fun e W' => ∃ v, e = .returned v ∧ Rows.indexKnownSpec.post enc Tryz.prog Tryz.f4 false true false false W args v W' := by
  have hW' := hW
  obtain ⟨p, q, hA0, hV, rfl, hfz, hnd⟩ := hW
  have hA : DataW.TrodAll enc Tryz.prog W 0 (fun _ => true) true Tryz.f4.params.toList args.toList ds p := hA0
  rw [Tryz.params4] at hA
  obtain ⟨hargs, rfl, rfl⟩ := trodAll_nil hA
  obtain rfl : args = #[] := by cases args; simp_all
  obtain ⟨rfl, rfl⟩ := trodVars_none hV
  have hv := vars_ok0 (laid := Rows.indexKnownRow.laid) indexKnown_w4 (by kernel_rfl) (by kernel_rfl) hL
  refine (known_true (fun p hp => (hv p hp).1) (Go.Ex.rel_vars hv) (fun i hi => by simp [Go.Ex.sg0]; omega)).mono fun e W' ⟨he, hb⟩ => ?_
  subst he
  exact ⟨_, rfl, [], [], [], [], [], [], hW', trodAll_cons_mk (shut_bool Tryz.underlying4 _) trodAll_mk0, trodAll_mk0, rfl, hb.frame _, fun h => by cases h⟩

theorem indexKnown_row (os : Os) {H : Type} (enc : TypeId × Value → H) : (OpenSpec.ofChange Rows.indexKnownSpec).preRow enc Tryz.prog Tryz.f4 Rows.indexKnownRow.domain false Rows.indexKnownRow.laid (wOf os #[]) #[] :=
  OpenSpec.preRow_of_cond 8 (indexKnown_reads os enc) (by kernel_rfl) (fun k hk => by cases hk) (by kernel_rfl) (indexKnown_w5 os)

theorem indexKnown_wit (os : Os) {H : Type} (enc : TypeId × Value → H) : ∃ (w : World) (tape : Tape) (i : Input), w.os = os ∧ (w.forCall tape i).Shaped Tryz.checked.prog ∧ i.vars = [] ∧ Input.okWide Tryz.checked.prog (w.forCall tape i) .any w.heap.size 4 i ∧
      (OpenSpec.ofChange Rows.indexKnownSpec).preRow enc Tryz.checked.prog Tryz.f4 Rows.indexKnownRow.domain false Rows.indexKnownRow.laid (w.forCall tape i).memory i.args ∧ ({ } : Assume).holds Tryz.checked.prog (lone (Frame.enter Tryz.checked.prog 4 i.args .normal) [] (w.forCall tape i)) :=
  witness_row_atRef (enc := enc) (C := Tryz.checked) false (laidWorld os) #[] (indexKnown_w6 os) (indexKnown_w1 os) (indexKnown_w2 os) (indexKnown_w3 os) (indexKnown_row os enc)

theorem indexKnown_contr (os : Os) (started : os.Started) (H : Type) (enc : TypeId × Value → H) (F : Stop.Interp) (hw : ∃ (w : World) (tape : Tape) (i : Input), w.os = os ∧ (w.forCall tape i).Shaped Tryz.checked.prog ∧ i.vars = [] ∧ Input.okWide Tryz.checked.prog (w.forCall tape i) .any w.heap.size 4 i ∧
      (OpenSpec.ofChange Rows.indexKnownSpec).preRow enc Tryz.checked.prog Tryz.f4 Rows.indexKnownRow.domain false Rows.indexKnownRow.laid (w.forCall tape i).memory i.args ∧ ({ } : Assume).holds Tryz.checked.prog (lone (Frame.enter Tryz.checked.prog 4 i.args .normal) [] (w.forCall tape i))) :
    ReturnsInHanded {} Tryz.checked os 4 .any ((OpenSpec.ofChange Rows.indexKnownSpec).preRow enc Tryz.prog Tryz.f4 Rows.indexKnownRow.domain false Rows.indexKnownRow.laid) (((OpenSpec.ofChange Rows.indexKnownSpec).at F).post enc Tryz.prog Tryz.f4 false true false false) := by
  refine returnsInHanded_of_row (C := Tryz.checked) (s := OpenSpec.ofChange Rows.indexKnownSpec) own started (by kernel_rfl) Tryz.func4 hw ?_
  intro W base args ds gs before hval hW _ _ _ hL _ _
  exact indexKnown_contract H enc W args ds gs before hW hL

theorem indexKnown_lifted (os : Os) (started : os.Started) (H : Type) (enc : TypeId × Value → H) (F : Stop.Interp) :
    ReturnsInHanded {} Tryz.checked os 4 .any ((OpenSpec.ofChange Rows.indexKnownSpec).preRow enc Tryz.prog Tryz.f4 Rows.indexKnownRow.domain false Rows.indexKnownRow.laid) (((OpenSpec.ofChange Rows.indexKnownSpec).at F).post enc Tryz.prog Tryz.f4 false true false false) :=
  indexKnown_contr os started H enc F (indexKnown_wit os enc)

theorem indexKnown_said : Rows.IndexKnownSaid :=
  OpenClaim.holds_of_cond 4 Tryz.f4 rfl rfl rfl rfl rfl rfl rfl ⟨rfl, rfl, rfl, rfl, rfl⟩ rfl rfl rfl rfl rfl (by kernel_rfl) Tryz.func4 indexKnown_facts indexKnown_inst indexKnown_wrap
    (fun os started H enc _ F => by rw [OpenClaim.pre_eq_preRow]; exact indexKnown_lifted os started H enc F)

theorem indexKnown_plain (f : FuncId) (fn : Func) (hf : Tryz.pinned.checked.prog.funcNamed "roster/rosterlaw14.IndexKnown" = some f) (hfn : Tryz.pinned.checked.prog.funcs[f]? = some fn) :
    true = Tryz.pinned.checked.prog.looks [] ∧ ∀ (j : Nat) t, fn.params[j]? = some t → Tryz.pinned.checked.prog.wantsStandIn t = false := by
  obtain rfl : f = 4 := Option.some.inj (indexKnown_named.symm.trans hf) |>.symm
  obtain rfl : fn = Tryz.f4 := (Option.some.inj (Tryz.func4.symm.trans hfn)).symm
  refine ⟨indexKnown_looks, fun j t ht => ?_⟩
  rw [Tryz.params4] at ht
  simp at ht

/-- THE CARD. -/
theorem indexKnown : Rows.IndexKnownCardSaid :=
  Claim7.holds_tied_plain_at .later [] _ _ _ _ indexKnown_said (fun _ h => by cases h) indexKnown_wfT (fun _ h => by cases h) indexKnown_row_tie rfl ⟨rfl, rfl⟩ indexKnown_main rfl indexKnown_plain indexKnown_goes
end Go.Proofs.YtkidamemnogojaaGreatDoor
