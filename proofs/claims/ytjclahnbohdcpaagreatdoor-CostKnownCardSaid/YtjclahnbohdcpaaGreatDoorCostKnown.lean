/-
  roster/rosterlaw17.CostKnown answers true: the card, tied to the program's text. A closed call: the abstract machine runs it. Conditions: the listed package-level variables hold what the program's text lays.
-/
import Derived.Test.YtjclahnbohdcpaaGreatDoorCards
import Derived.Test.YtjclahnbohdcpaaGreatDoorTie
import Derived.Test.YtjclahnbohdcpaaGreatDoorCostKnownWit
import Derived.Test.YtjclahnbohdcpaaGreatDoorKnownP
import Derived.Test.YtjclahnbohdcpaaGreatDoorCostKnownF5
namespace Go.Proofs.YtjclahnbohdcpaaGreatDoor
open Go.ChangeShapes Go.WideShapes Go.ChangeAt Go.RowKit

theorem costKnown_contract (H : Type) (enc : TypeId × Value → H) (W : World) (args : Array Value) (ds gs : List (DataW H)) (before : List MemPlace)
    (hW : DataW.Whole enc Tryz.prog Tryz.f4.params.toList Rows.costKnownSpec.vars false W args.toList ds gs before) (hL : laidMetH Tryz.prog Rows.costKnownRow.laid W) :
    Calls Tryz.prog 4 args W fun e W' => ∃ v, e = .returned v ∧ Rows.costKnownSpec.post enc Tryz.prog Tryz.f4 false true false false W args v W' := by
  have hW' := hW
  obtain ⟨p, q, hA0, hV, rfl, hfz, hnd⟩ := hW
  have hA : DataW.TrodAll enc Tryz.prog W 0 (fun _ => true) true Tryz.f4.params.toList args.toList ds p := hA0
  rw [Tryz.params4] at hA
  obtain ⟨hargs, rfl, rfl⟩ := trodAll_nil hA
  obtain rfl : args = #[] := by cases args; simp_all
  obtain ⟨rfl, rfl⟩ := trodVars_none hV
  have hv := vars_ok0 (laid := Rows.costKnownRow.laid) costKnown_w4 (by kernel_rfl) (by kernel_rfl) hL
  refine (known_true (fun p hp => (hv p hp).1) (Go.Ex.rel_vars hv) (fun i hi => by simp [Go.Ex.sg0]; omega)).mono fun e W' ⟨he, hb⟩ => ?_
  subst he
  exact ⟨_, rfl, [], [], [], [], [], [], hW', trodAll_cons_mk (shut_bool Tryz.underlying4 _) trodAll_mk0, trodAll_mk0, rfl, hb.frame _, fun h => by cases h⟩

theorem costKnown_row (os : Os) {H : Type} (enc : TypeId × Value → H) : (OpenSpec.ofChange Rows.costKnownSpec).preRow enc Tryz.prog Tryz.f4 Rows.costKnownRow.domain false Rows.costKnownRow.laid (wOf0 os #[]) #[] :=
  OpenSpec.preRow_of_cond 8 (costKnown_reads os enc) (by kernel_rfl) (fun k hk => by cases hk) (by kernel_rfl) (costKnown_w5 os)

theorem costKnown_wit (os : Os) {H : Type} (enc : TypeId × Value → H) : ∃ (w : World) (tape : Tape) (i : Input), w.os = os ∧ (w.forCall tape i).Shaped Tryz.checked.prog ∧ i.vars = [] ∧ Input.okWide Tryz.checked.prog (w.forCall tape i) .any w.heap.size 4 i ∧
      (OpenSpec.ofChange Rows.costKnownSpec).preRow enc Tryz.checked.prog Tryz.f4 Rows.costKnownRow.domain false Rows.costKnownRow.laid (w.forCall tape i).memory i.args ∧ ({ } : Assume).holds Tryz.checked.prog (lone (Frame.enter Tryz.checked.prog 4 i.args .normal) [] (w.forCall tape i)) :=
  witness_row_atRef (enc := enc) (C := Tryz.checked) false (laidWorld0 os) #[] (costKnown_w6 os) (costKnown_w1 os) (costKnown_w2 os) (costKnown_w3 os) (costKnown_row os enc)

theorem costKnown_contr (os : Os) (started : os.Started) (H : Type) (enc : TypeId × Value → H) (F : Stop.Interp) (hw : ∃ (w : World) (tape : Tape) (i : Input), w.os = os ∧ (w.forCall tape i).Shaped Tryz.checked.prog ∧ i.vars = [] ∧ Input.okWide Tryz.checked.prog (w.forCall tape i) .any w.heap.size 4 i ∧
      (OpenSpec.ofChange Rows.costKnownSpec).preRow enc Tryz.checked.prog Tryz.f4 Rows.costKnownRow.domain false Rows.costKnownRow.laid (w.forCall tape i).memory i.args ∧ ({ } : Assume).holds Tryz.checked.prog (lone (Frame.enter Tryz.checked.prog 4 i.args .normal) [] (w.forCall tape i))) :
    ReturnsInHanded {} Tryz.checked os 4 .any ((OpenSpec.ofChange Rows.costKnownSpec).preRow enc Tryz.prog Tryz.f4 Rows.costKnownRow.domain false Rows.costKnownRow.laid) (((OpenSpec.ofChange Rows.costKnownSpec).at F).post enc Tryz.prog Tryz.f4 false true false false) := by
  refine returnsInHanded_of_row (C := Tryz.checked) (s := OpenSpec.ofChange Rows.costKnownSpec) own started (by kernel_rfl) Tryz.func4 hw ?_
  intro W base args ds gs before hval hW _ _ _ hL _ _
  exact costKnown_contract H enc W args ds gs before hW hL

theorem costKnown_lifted (os : Os) (started : os.Started) (H : Type) (enc : TypeId × Value → H) (F : Stop.Interp) :
    ReturnsInHanded {} Tryz.checked os 4 .any ((OpenSpec.ofChange Rows.costKnownSpec).preRow enc Tryz.prog Tryz.f4 Rows.costKnownRow.domain false Rows.costKnownRow.laid) (((OpenSpec.ofChange Rows.costKnownSpec).at F).post enc Tryz.prog Tryz.f4 false true false false) :=
  costKnown_contr os started H enc F (costKnown_wit os enc)

theorem costKnown_said : Rows.CostKnownSaid :=
  OpenClaim.holds_of_cond 4 Tryz.f4 rfl rfl rfl rfl rfl rfl rfl ⟨rfl, rfl, rfl, rfl, rfl⟩ rfl rfl rfl rfl rfl (by kernel_rfl) Tryz.func4 costKnown_facts costKnown_inst costKnown_wrap
    (fun os started H enc _ F => by rw [OpenClaim.pre_eq_preRow]; exact costKnown_lifted os started H enc F)

theorem costKnown_plain (f : FuncId) (fn : Func) (hf : Tryz.pinned.checked.prog.funcNamed "roster/rosterlaw17.CostKnown" = some f) (hfn : Tryz.pinned.checked.prog.funcs[f]? = some fn) :
    true = Tryz.pinned.checked.prog.looks [] ∧ ∀ (j : Nat) t, fn.params[j]? = some t → Tryz.pinned.checked.prog.wantsStandIn t = false := by
  obtain rfl : f = 4 := Option.some.inj (costKnown_named.symm.trans hf) |>.symm
  obtain rfl : fn = Tryz.f4 := (Option.some.inj (Tryz.func4.symm.trans hfn)).symm
  refine ⟨costKnown_looks, fun j t ht => ?_⟩
  rw [Tryz.params4] at ht
  simp at ht

/-- THE CARD. -/
theorem costKnown : Rows.CostKnownCardSaid :=
  Claim7.holds_tied_plain_at .later [] _ _ _ _ costKnown_said (fun _ h => by cases h) costKnown_wfT (fun _ h => by cases h) costKnown_row_tie rfl ⟨rfl, rfl⟩ costKnown_main rfl costKnown_plain costKnown_goes
end Go.Proofs.YtjclahnbohdcpaaGreatDoor
