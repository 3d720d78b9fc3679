/-
  roster/rosterlaw15.StoreNil answers true: the card, tied to the program's text. The arguments are not looked at: the abstract machine runs it. Conditions: the listed package-level variables hold what the program's text lays.
-/
import Derived.Test.YtkidamemnogojaaGreatDoorCards
import Derived.Test.YtkidamemnogojaaGreatDoorExArgs
import Derived.Test.YtkidamemnogojaaGreatDoorTie
import Derived.Test.YtkidamemnogojaaGreatDoorStoreNilWit
import Derived.Test.YtkidamemnogojaaGreatDoorStoreNilRan
import Derived.Test.YtkidamemnogojaaGreatDoorStoreNilF5
namespace Go.Proofs.YtkidamemnogojaaGreatDoor
open Go.ChangeShapes Go.WideShapes Go.ChangeAt Go.RowKit

theorem storeNil_laidOut : laidOutB Tryz.prog = true := by kernel_rfl
theorem storeNil_readable : (Tryz.f5.params.toList.all fun t => Tryz.prog.readableRec t && decide (t < Tryz.prog.types.size)) = true := by kernel_rfl
theorem storeNil_contract (H : Type) (enc : TypeId × Value → H) (W : World) (base : Nat) (args : Array Value) (ds gs : List (DataW H)) (before : List MemPlace)
    (hval : Go.Ex.ArgsOk Tryz.checked.prog W base Tryz.f5.params args)
    (hW : DataW.Whole enc Tryz.prog Tryz.f5.params.toList Rows.storeNilSpec.vars false W args.toList ds gs before) (hL : laidMetH Tryz.prog Rows.storeNilRow.laid W) :
    Calls Tryz.prog 5 args W fun e W' => ∃ v, e = .returned v ∧ Rows.storeNilSpec.post enc Tryz.prog Tryz.f5 false true false false W args v W' := by
  have hv := vars_ok1 (laid := Rows.storeNilRow.laid) storeNil_w4 (by kernel_rfl) (by kernel_rfl) (by kernel_rfl) hL
  have hlen : args.toList.length = Tryz.f5.params.toList.length := by obtain ⟨p, q, hA, _⟩ := hW; exact Go.Ex.trodAll_len hA
  have ha : Go.Ex.RL (Go.Ex.sg0 Tryz.prog W 11) (Tryz.f5.params.toList.map (Go.Ex.openA Tryz.checked.prog)) args.toList := Go.Ex.rl_args hlen hval
  refine (Go.Ex.calls_trueA noNum ext4Ok mixed storeNil_ran ha hv).mono fun e W' ⟨he, hb⟩ => ?_
  subst he
  refine ⟨_, rfl, Go.Ex.post_true (b := 4) storeNil_laidOut storeNil_readable rfl (by kernel_rfl) Tryz.underlying4 (fun ds hl => ?_) hW hb⟩
  rw [Tryz.params5] at hl
  match ds, hl with
  | [d0], _ => rfl

theorem storeNil_row (os : Os) {H : Type} (enc : TypeId × Value → H) : (OpenSpec.ofChange Rows.storeNilSpec).preRow enc Tryz.prog Tryz.f5 Rows.storeNilRow.domain false Rows.storeNilRow.laid (wOf os #[.agg #[.int .i64 0, .int .u64 0, .slice none 0 0, .slice none 0 0, .slice none 0 0, .int .i8 0, .int .i64 0, .string ⟨#[]⟩, .slice none 0 0]]) #[.agg #[.int .i64 0, .int .u64 0, .slice none 0 0, .slice none 0 0, .slice none 0 0, .int .i8 0, .int .i64 0, .string ⟨#[]⟩, .slice none 0 0]] :=
  OpenSpec.preRow_of_cond 8 (storeNil_reads os enc) (by kernel_rfl) (fun k hk => by cases hk) (by kernel_rfl) (storeNil_w5 os)

theorem storeNil_wit (os : Os) {H : Type} (enc : TypeId × Value → H) : ∃ (w : World) (tape : Tape) (i : Input), w.os = os ∧ (w.forCall tape i).Shaped Tryz.checked.prog ∧ i.vars = [] ∧ Input.okWide Tryz.checked.prog (w.forCall tape i) .any w.heap.size 5 i ∧
      (OpenSpec.ofChange Rows.storeNilSpec).preRow enc Tryz.checked.prog Tryz.f5 Rows.storeNilRow.domain false Rows.storeNilRow.laid (w.forCall tape i).memory i.args ∧ ({ } : Assume).holds Tryz.checked.prog (lone (Frame.enter Tryz.checked.prog 5 i.args .normal) [] (w.forCall tape i)) :=
  witness_row_atRef (enc := enc) (C := Tryz.checked) false (laidWorld os) #[.agg #[.int .i64 0, .int .u64 0, .slice none 0 0, .slice none 0 0, .slice none 0 0, .int .i8 0, .int .i64 0, .string ⟨#[]⟩, .slice none 0 0]] (storeNil_w6 os) (storeNil_w1 os) (storeNil_w2 os) (storeNil_w3 os) (storeNil_row os enc)

theorem storeNil_contr (os : Os) (started : os.Started) (H : Type) (enc : TypeId × Value → H) (F : Stop.Interp) (hw : ∃ (w : World) (tape : Tape) (i : Input), w.os = os ∧ (w.forCall tape i).Shaped Tryz.checked.prog ∧ i.vars = [] ∧ Input.okWide Tryz.checked.prog (w.forCall tape i) .any w.heap.size 5 i ∧
      (OpenSpec.ofChange Rows.storeNilSpec).preRow enc Tryz.checked.prog Tryz.f5 Rows.storeNilRow.domain false Rows.storeNilRow.laid (w.forCall tape i).memory i.args ∧ ({ } : Assume).holds Tryz.checked.prog (lone (Frame.enter Tryz.checked.prog 5 i.args .normal) [] (w.forCall tape i))) :
    ReturnsInHanded {} Tryz.checked os 5 .any ((OpenSpec.ofChange Rows.storeNilSpec).preRow enc Tryz.prog Tryz.f5 Rows.storeNilRow.domain false Rows.storeNilRow.laid) (((OpenSpec.ofChange Rows.storeNilSpec).at F).post enc Tryz.prog Tryz.f5 false true false false) := by
  refine returnsInHanded_of_row (C := Tryz.checked) (s := OpenSpec.ofChange Rows.storeNilSpec) own started (by kernel_rfl) Tryz.func5 hw ?_
  intro W base args ds gs before hval hW _ _ _ hL _ _
  have hok : Go.Ex.ArgsOk Tryz.checked.prog W base Tryz.f5.params args := ⟨@hval⟩
  exact storeNil_contract H enc W base args ds gs before hok hW hL

theorem storeNil_lifted (os : Os) (started : os.Started) (H : Type) (enc : TypeId × Value → H) (F : Stop.Interp) :
    ReturnsInHanded {} Tryz.checked os 5 .any ((OpenSpec.ofChange Rows.storeNilSpec).preRow enc Tryz.prog Tryz.f5 Rows.storeNilRow.domain false Rows.storeNilRow.laid) (((OpenSpec.ofChange Rows.storeNilSpec).at F).post enc Tryz.prog Tryz.f5 false true false false) :=
  storeNil_contr os started H enc F (storeNil_wit os enc)

theorem storeNil_said : Rows.StoreNilSaid :=
  OpenClaim.holds_of_cond 5 Tryz.f5 rfl rfl rfl rfl rfl rfl rfl ⟨rfl, rfl, rfl, rfl, rfl⟩ rfl rfl rfl rfl rfl (by kernel_rfl) Tryz.func5 storeNil_facts storeNil_inst storeNil_wrap
    (fun os started H enc _ F => by rw [OpenClaim.pre_eq_preRow]; exact storeNil_lifted os started H enc F)

theorem storeNil_noStand : (Tryz.f5.params.toList.all fun t => !(Tryz.pinned.checked.prog.wantsStandIn t)) = true := by kernel_rfl
theorem storeNil_plain (f : FuncId) (fn : Func) (hf : Tryz.pinned.checked.prog.funcNamed "roster/rosterlaw15.StoreNil" = some f) (hfn : Tryz.pinned.checked.prog.funcs[f]? = some fn) :
    true = Tryz.pinned.checked.prog.looks [] ∧ ∀ (j : Nat) t, fn.params[j]? = some t → Tryz.pinned.checked.prog.wantsStandIn t = false := by
  obtain rfl : f = 5 := Option.some.inj (storeNil_named.symm.trans hf) |>.symm
  obtain rfl : fn = Tryz.f5 := (Option.some.inj (Tryz.func5.symm.trans hfn)).symm
  refine ⟨storeNil_looks, fun j t ht => ?_⟩
  have h := storeNil_noStand
  rw [List.all_eq_true] at h
  simpa using h t (List.mem_of_getElem? (by simpa using ht))

/-- THE CARD. -/
theorem storeNil : Rows.StoreNilCardSaid :=
  Claim7.holds_tied_plain_at .later [] _ _ _ _ storeNil_said (fun _ h => by cases h) storeNil_wfT (fun _ h => by cases h) storeNil_row_tie rfl ⟨rfl, rfl⟩ storeNil_main rfl storeNil_plain storeNil_goes
end Go.Proofs.YtkidamemnogojaaGreatDoor
