/-
  roster/rosterlaw15.StoreKnown answers true: the card, tied to the program's text. A closed call: the abstract machine runs it. Conditions: the listed package-level variables hold what the program's text lays.
-/
import Derived.Test.YtkidamemnogojaaGreatDoorCards
import Derived.Test.YtkidamemnogojaaGreatDoorTie
import Derived.Test.YtkidamemnogojaaGreatDoorStoreKnownWit
import Derived.Test.YtkidamemnogojaaGreatDoorSknP
import Derived.Test.YtkidamemnogojaaGreatDoorStoreKnownF5
namespace Go.Proofs.YtkidamemnogojaaGreatDoor
open Go.ChangeShapes Go.WideShapes Go.ChangeAt Go.RowKit

theorem storeKnown_contract (H : Type) (enc : TypeId × Value → H) (W : World) (args : Array Value) (ds gs : List (DataW H)) (before : List MemPlace)
    (hW : DataW.Whole enc Tryz.prog Tryz.f6.params.toList Rows.storeKnownSpec.vars false W args.toList ds gs before) (hL : laidMetH Tryz.prog Rows.storeKnownRow.laid W) :
    Calls Tryz.prog 6 args W fun e W' => ∃ v, e = .returned v ∧ Rows.storeKnownSpec.post enc Tryz.prog Tryz.f6 false true false false W args v W' := by
  have hW' := hW
  obtain ⟨p, q, hA0, hV, rfl, hfz, hnd⟩ := hW
  have hA : DataW.TrodAll enc Tryz.prog W 0 (fun _ => true) true Tryz.f6.params.toList args.toList ds p := hA0
  rw [Tryz.params6] at hA
  obtain ⟨hargs, rfl, rfl⟩ := trodAll_nil hA
  obtain rfl : args = #[] := by cases args; simp_all
  obtain ⟨rfl, rfl⟩ := trodVars_none hV
  have hv := vars_ok1 (laid := Rows.storeKnownRow.laid) storeKnown_w4 (by kernel_rfl) (by kernel_rfl) (by kernel_rfl) hL
  refine (skn_true (fun p hp => (hv p hp).1) (Go.Ex.rel_vars hv) (fun i hi => by simp [Go.Ex.sg0]; omega)).mono fun e W' ⟨he, hb⟩ => ?_
  subst he
  exact ⟨_, rfl, [], [], [], [], [], [], hW', trodAll_cons_mk (shut_bool Tryz.underlying4 _) trodAll_mk0, trodAll_mk0, rfl, hb.frame _, fun h => by cases h⟩

theorem storeKnown_row (os : Os) {H : Type} (enc : TypeId × Value → H) : (OpenSpec.ofChange Rows.storeKnownSpec).preRow enc Tryz.prog Tryz.f6 Rows.storeKnownRow.domain false Rows.storeKnownRow.laid (wOf os #[]) #[] :=
  OpenSpec.preRow_of_cond 8 (storeKnown_reads os enc) (by kernel_rfl) (fun k hk => by cases hk) (by kernel_rfl) (storeKnown_w5 os)

theorem storeKnown_wit (os : Os) {H : Type} (enc : TypeId × Value → H) : ∃ (w : World) (tape : Tape) (i : Input), w.os = os ∧ (w.forCall tape i).Shaped Tryz.checked.prog ∧ i.vars = [] ∧ Input.okWide Tryz.checked.prog (w.forCall tape i) .any w.heap.size 6 i ∧
      (OpenSpec.ofChange Rows.storeKnownSpec).preRow enc Tryz.checked.prog Tryz.f6 Rows.storeKnownRow.domain false Rows.storeKnownRow.laid (w.forCall tape i).memory i.args ∧ ({ } : Assume).holds Tryz.checked.prog (lone (Frame.enter Tryz.checked.prog 6 i.args .normal) [] (w.forCall tape i)) :=
  witness_row_atRef (enc := enc) (C := Tryz.checked) false (laidWorld os) #[] (storeKnown_w6 os) (storeKnown_w1 os) (storeKnown_w2 os) (storeKnown_w3 os) (storeKnown_row os enc)

theorem storeKnown_contr (os : Os) (started : os.Started) (H : Type) (enc : TypeId × Value → H) (F : Stop.Interp) (hw : ∃ (w : World) (tape : Tape) (i : Input), w.os = os ∧ (w.forCall tape i).Shaped Tryz.checked.prog ∧ i.vars = [] ∧ Input.okWide Tryz.checked.prog (w.forCall tape i) .any w.heap.size 6 i ∧
      (OpenSpec.ofChange Rows.storeKnownSpec).preRow enc Tryz.checked.prog Tryz.f6 Rows.storeKnownRow.domain false Rows.storeKnownRow.laid (w.forCall tape i).memory i.args ∧ ({ } : Assume).holds Tryz.checked.prog (lone (Frame.enter Tryz.checked.prog 6 i.args .normal) [] (w.forCall tape i))) :
    ReturnsInHanded {} Tryz.checked os 6 .any ((OpenSpec.ofChange Rows.storeKnownSpec).preRow enc Tryz.prog Tryz.f6 Rows.storeKnownRow.domain false Rows.storeKnownRow.laid) (((OpenSpec.ofChange Rows.storeKnownSpec).at F).post enc Tryz.prog Tryz.f6 false true false false) := by
  refine returnsInHanded_of_row (C := Tryz.checked) (s := OpenSpec.ofChange Rows.storeKnownSpec) own started (by kernel_rfl) Tryz.func6 hw ?_
  intro W base args ds gs before hval hW _ _ _ hL _ _
  exact storeKnown_contract H enc W args ds gs before hW hL

theorem storeKnown_lifted (os : Os) (started : os.Started) (H : Type) (enc : TypeId × Value → H) (F : Stop.Interp) :
    ReturnsInHanded {} Tryz.checked os 6 .any ((OpenSpec.ofChange Rows.storeKnownSpec).preRow enc Tryz.prog Tryz.f6 Rows.storeKnownRow.domain false Rows.storeKnownRow.laid) (((OpenSpec.ofChange Rows.storeKnownSpec).at F).post enc Tryz.prog Tryz.f6 false true false false) :=
  storeKnown_contr os started H enc F (storeKnown_wit os enc)

theorem storeKnown_said : Rows.StoreKnownSaid :=
  OpenClaim.holds_of_cond 6 Tryz.f6 rfl rfl rfl rfl rfl rfl rfl ⟨rfl, rfl, rfl, rfl, rfl⟩ rfl rfl rfl rfl rfl (by kernel_rfl) Tryz.func6 storeKnown_facts storeKnown_inst storeKnown_wrap
    (fun os started H enc _ F => by rw [OpenClaim.pre_eq_preRow]; exact storeKnown_lifted os started H enc F)

theorem storeKnown_plain (f : FuncId) (fn : Func) (hf : Tryz.pinned.checked.prog.funcNamed "roster/rosterlaw15.StoreKnown" = some f) (hfn : Tryz.pinned.checked.prog.funcs[f]? = some fn) :
    true = Tryz.pinned.checked.prog.looks [] ∧ ∀ (j : Nat) t, fn.params[j]? = some t → Tryz.pinned.checked.prog.wantsStandIn t = false := by
  obtain rfl : f = 6 := Option.some.inj (storeKnown_named.symm.trans hf) |>.symm
  obtain rfl : fn = Tryz.f6 := (Option.some.inj (Tryz.func6.symm.trans hfn)).symm
  refine ⟨storeKnown_looks, fun j t ht => ?_⟩
  rw [Tryz.params6] at ht
  simp at ht

/-- THE CARD. -/
theorem storeKnown : Rows.StoreKnownCardSaid :=
  Claim7.holds_tied_plain_at .later [] _ _ _ _ storeKnown_said (fun _ h => by cases h) storeKnown_wfT (fun _ h => by cases h) storeKnown_row_tie rfl ⟨rfl, rfl⟩ storeKnown_main rfl storeKnown_plain storeKnown_goes
end Go.Proofs.YtkidamemnogojaaGreatDoor
