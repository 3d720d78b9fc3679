/-
  roster/rosterlaw08.EntryKnown answers true: the card, tied to the program's text. A closed call: the abstract machine runs it. Conditions: the listed package-level variables hold what the program's text lays.
-/
import Derived.Test.YtiiadibbkijnhaaGreatDoorCards
import Derived.Test.YtiiadibbkijnhaaGreatDoorTie
import Derived.Test.YtiiadibbkijnhaaGreatDoorEntryKnownWit
import Derived.Test.YtiiadibbkijnhaaGreatDoorEknownP
import Derived.Test.YtiiadibbkijnhaaGreatDoorEntryKnownF5
namespace Go.Proofs.YtiiadibbkijnhaaGreatDoor
open Go.ChangeShapes Go.WideShapes Go.ChangeAt Go.RowKit

theorem entryKnown_contract (H : Type) (enc : TypeId × Value → H) (W : World) (args : Array Value) (ds gs : List (DataW H)) (before : List MemPlace)
    (hW : DataW.Whole enc Tryz.prog Tryz.f4.params.toList Rows.entryKnownSpec.vars false W args.toList ds gs before) (hL : laidMetH Tryz.prog Rows.entryKnownRow.laid W) :
    Calls Tryz.prog 4 args W fun e W' => ∃ v, e = .returned v ∧ Rows.entryKnownSpec.post enc Tryz.prog Tryz.f4 false true false false W args v W' := by
  have hW' := hW
  obtain ⟨p, q, hA0, hV, rfl, hfz, hnd⟩ := hW
  have hA : DataW.TrodAll enc Tryz.prog W 0 (fun _ => true) true Tryz.f4.params.toList args.toList ds p := hA0
  rw [Tryz.params4] at hA
  obtain ⟨hargs, rfl, rfl⟩ := trodAll_nil hA
  obtain rfl : args = #[] := by cases args; simp_all
  obtain ⟨rfl, rfl⟩ := trodVars_none hV
  have hv := vars_ok0 (laid := Rows.entryKnownRow.laid) entryKnown_w4 (by kernel_rfl) (by kernel_rfl) (by kernel_rfl) hL
  refine (eknown_true (fun p hp => (hv p hp).1) (Go.Ex.rel_vars hv) (fun i hi => by simp [Go.Ex.sg0]; omega)).mono fun e W' ⟨he, hb⟩ => ?_
  subst he
  exact ⟨_, rfl, [], [], [], [], [], [], hW', trodAll_cons_mk (shut_bool Tryz.underlying4 _) trodAll_mk0, trodAll_mk0, rfl, hb.frame _, fun h => by cases h⟩

theorem entryKnown_row (os : Os) {H : Type} (enc : TypeId × Value → H) : (OpenSpec.ofChange Rows.entryKnownSpec).preRow enc Tryz.prog Tryz.f4 Rows.entryKnownRow.domain false Rows.entryKnownRow.laid (wOf os #[]) #[] :=
  OpenSpec.preRow_of_cond 8 (entryKnown_reads os enc) (by kernel_rfl) (fun k hk => by cases hk) (by kernel_rfl) (entryKnown_w5 os)

theorem entryKnown_wit (os : Os) {H : Type} (enc : TypeId × Value → H) : ∃ (w : World) (tape : Tape) (i : Input), w.os = os ∧ (w.forCall tape i).Shaped Tryz.checked.prog ∧ i.vars = [] ∧ Input.okWide Tryz.checked.prog (w.forCall tape i) .any w.heap.size 4 i ∧
      (OpenSpec.ofChange Rows.entryKnownSpec).preRow enc Tryz.checked.prog Tryz.f4 Rows.entryKnownRow.domain false Rows.entryKnownRow.laid (w.forCall tape i).memory i.args ∧ ({ } : Assume).holds Tryz.checked.prog (lone (Frame.enter Tryz.checked.prog 4 i.args .normal) [] (w.forCall tape i)) :=
  witness_row_atRef (enc := enc) (C := Tryz.checked) false (laidWorld os) #[] (entryKnown_w6 os) (entryKnown_w1 os) (entryKnown_w2 os) (entryKnown_w3 os) (entryKnown_row os enc)

theorem entryKnown_contr (os : Os) (started : os.Started) (H : Type) (enc : TypeId × Value → H) (F : Stop.Interp) (hw : ∃ (w : World) (tape : Tape) (i : Input), w.os = os ∧ (w.forCall tape i).Shaped Tryz.checked.prog ∧ i.vars = [] ∧ Input.okWide Tryz.checked.prog (w.forCall tape i) .any w.heap.size 4 i ∧
      (OpenSpec.ofChange Rows.entryKnownSpec).preRow enc Tryz.checked.prog Tryz.f4 Rows.entryKnownRow.domain false Rows.entryKnownRow.laid (w.forCall tape i).memory i.args ∧ ({ } : Assume).holds Tryz.checked.prog (lone (Frame.enter Tryz.checked.prog 4 i.args .normal) [] (w.forCall tape i))) :
    ReturnsInHanded {} Tryz.checked os 4 .any ((OpenSpec.ofChange Rows.entryKnownSpec).preRow enc Tryz.prog Tryz.f4 Rows.entryKnownRow.domain false Rows.entryKnownRow.laid) (((OpenSpec.ofChange Rows.entryKnownSpec).at F).post enc Tryz.prog Tryz.f4 false true false false) := by
  refine returnsInHanded_of_row (C := Tryz.checked) (s := OpenSpec.ofChange Rows.entryKnownSpec) own started (by kernel_rfl) Tryz.func4 hw ?_
  intro W base args ds gs before hval hW _ _ _ hL _ _
  exact entryKnown_contract H enc W args ds gs before hW hL

theorem entryKnown_lifted (os : Os) (started : os.Started) (H : Type) (enc : TypeId × Value → H) (F : Stop.Interp) :
    ReturnsInHanded {} Tryz.checked os 4 .any ((OpenSpec.ofChange Rows.entryKnownSpec).preRow enc Tryz.prog Tryz.f4 Rows.entryKnownRow.domain false Rows.entryKnownRow.laid) (((OpenSpec.ofChange Rows.entryKnownSpec).at F).post enc Tryz.prog Tryz.f4 false true false false) :=
  entryKnown_contr os started H enc F (entryKnown_wit os enc)

theorem entryKnown_said : Rows.EntryKnownSaid :=
  OpenClaim.holds_of_cond 4 Tryz.f4 rfl rfl rfl rfl rfl rfl rfl ⟨rfl, rfl, rfl, rfl, rfl⟩ rfl rfl rfl rfl rfl (by kernel_rfl) Tryz.func4 entryKnown_facts entryKnown_inst entryKnown_wrap
    (fun os started H enc _ F => by rw [OpenClaim.pre_eq_preRow]; exact entryKnown_lifted os started H enc F)

theorem entryKnown_plain (f : FuncId) (fn : Func) (hf : Tryz.pinned.checked.prog.funcNamed "roster/rosterlaw08.EntryKnown" = some f) (hfn : Tryz.pinned.checked.prog.funcs[f]? = some fn) :
    true = Tryz.pinned.checked.prog.looks [] ∧ ∀ (j : Nat) t, fn.params[j]? = some t → Tryz.pinned.checked.prog.wantsStandIn t = false := by
  obtain rfl : f = 4 := Option.some.inj (entryKnown_named.symm.trans hf) |>.symm
  obtain rfl : fn = Tryz.f4 := (Option.some.inj (Tryz.func4.symm.trans hfn)).symm
  refine ⟨entryKnown_looks, fun j t ht => ?_⟩
  rw [Tryz.params4] at ht
  simp at ht

/-- THE CARD. -/
theorem entryKnown : Rows.EntryKnownCardSaid :=
  Claim7.holds_tied_plain_at .later [] _ _ _ _ entryKnown_said (fun _ h => by cases h) entryKnown_wfT (fun _ h => by cases h) entryKnown_row_tie rfl ⟨rfl, rfl⟩ entryKnown_main rfl entryKnown_plain entryKnown_goes
end Go.Proofs.YtiiadibbkijnhaaGreatDoor
