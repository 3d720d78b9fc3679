/-
  roster/rosterlaw14.IndexNil answers true: the card, tied to the program's text. The arguments are not looked at: the abstract machine runs it. Conditions: the listed package-level variables hold what the program's text lays.
-/
import Derived.Test.YtkidamemnogojaaGreatDoorCards
import Derived.Test.YtkidamemnogojaaGreatDoorExArgs
import Derived.Test.YtkidamemnogojaaGreatDoorTie
import Derived.Test.YtkidamemnogojaaGreatDoorIndexNilWit
import Derived.Test.YtkidamemnogojaaGreatDoorIndexNilRan
import Derived.Test.YtkidamemnogojaaGreatDoorIndexNilF5
namespace Go.Proofs.YtkidamemnogojaaGreatDoor
open Go.ChangeShapes Go.WideShapes Go.ChangeAt Go.RowKit

theorem indexNil_laidOut : laidOutB Tryz.prog = true := by kernel_rfl
theorem indexNil_readable : (Tryz.f3.params.toList.all fun t => Tryz.prog.readableRec t && decide (t < Tryz.prog.types.size)) = true := by kernel_rfl
theorem indexNil_contract (H : Type) (enc : TypeId × Value → H) (W : World) (base : Nat) (args : Array Value) (ds gs : List (DataW H)) (before : List MemPlace)
    (hval : Go.Ex.ArgsOk Tryz.checked.prog W base Tryz.f3.params args)
    (hW : DataW.Whole enc Tryz.prog Tryz.f3.params.toList Rows.indexNilSpec.vars false W args.toList ds gs before) (hL : laidMetH Tryz.prog Rows.indexNilRow.laid W) :
    Calls Tryz.prog 3 args W fun e W' => ∃ v, e = .returned v ∧ Rows.indexNilSpec.post enc Tryz.prog Tryz.f3 false true false false W args v W' := by
  have hv := vars_ok0 (laid := Rows.indexNilRow.laid) indexNil_w4 (by kernel_rfl) (by kernel_rfl) hL
  have hlen : args.toList.length = Tryz.f3.params.toList.length := by obtain ⟨p, q, hA, _⟩ := hW; exact Go.Ex.trodAll_len hA
  have ha : Go.Ex.RL (Go.Ex.sg0 Tryz.prog W 11) (Tryz.f3.params.toList.map (Go.Ex.openA Tryz.checked.prog)) args.toList := Go.Ex.rl_args hlen hval
  refine (Go.Ex.calls_trueA noNum ext2Ok mixed indexNil_ran ha hv).mono fun e W' ⟨he, hb⟩ => ?_
  subst he
  refine ⟨_, rfl, Go.Ex.post_true (b := 4) indexNil_laidOut indexNil_readable rfl (by kernel_rfl) Tryz.underlying4 (fun ds hl => ?_) hW hb⟩
  rw [Tryz.params3] at hl
  match ds, hl with
  | [d0, d1, d2], _ => rfl

theorem indexNil_row (os : Os) {H : Type} (enc : TypeId × Value → H) : (OpenSpec.ofChange Rows.indexNilSpec).preRow enc Tryz.prog Tryz.f3 Rows.indexNilRow.domain false Rows.indexNilRow.laid (wOf os #[.int .u64 0, .agg #[.slice none 0 0], .agg #[.int .i8 0, .int .i64 0, .string ⟨#[]⟩, .slice none 0 0]]) #[.int .u64 0, .agg #[.slice none 0 0], .agg #[.int .i8 0, .int .i64 0, .string ⟨#[]⟩, .slice none 0 0]] :=
  OpenSpec.preRow_of_cond 8 (indexNil_reads os enc) (by kernel_rfl) (fun k hk => by cases hk) (by kernel_rfl) (indexNil_w5 os)

theorem indexNil_wit (os : Os) {H : Type} (enc : TypeId × Value → H) : ∃ (w : World) (tape : Tape) (i : Input), w.os = os ∧ (w.forCall tape i).Shaped Tryz.checked.prog ∧ i.vars = [] ∧ Input.okWide Tryz.checked.prog (w.forCall tape i) .any w.heap.size 3 i ∧
      (OpenSpec.ofChange Rows.indexNilSpec).preRow enc Tryz.checked.prog Tryz.f3 Rows.indexNilRow.domain false Rows.indexNilRow.laid (w.forCall tape i).memory i.args ∧ ({ } : Assume).holds Tryz.checked.prog (lone (Frame.enter Tryz.checked.prog 3 i.args .normal) [] (w.forCall tape i)) :=
  witness_row_atRef (enc := enc) (C := Tryz.checked) false (laidWorld os) #[.int .u64 0, .agg #[.slice none 0 0], .agg #[.int .i8 0, .int .i64 0, .string ⟨#[]⟩, .slice none 0 0]] (indexNil_w6 os) (indexNil_w1 os) (indexNil_w2 os) (indexNil_w3 os) (indexNil_row os enc)

theorem indexNil_contr (os : Os) (started : os.Started) (H : Type) (enc : TypeId × Value → H) (F : Stop.Interp) (hw : ∃ (w : World) (tape : Tape) (i : Input), w.os = os ∧ (w.forCall tape i).Shaped Tryz.checked.prog ∧ i.vars = [] ∧ Input.okWide Tryz.checked.prog (w.forCall tape i) .any w.heap.size 3 i ∧
      (OpenSpec.ofChange Rows.indexNilSpec).preRow enc Tryz.checked.prog Tryz.f3 Rows.indexNilRow.domain false Rows.indexNilRow.laid (w.forCall tape i).memory i.args ∧ ({ } : Assume).holds Tryz.checked.prog (lone (Frame.enter Tryz.checked.prog 3 i.args .normal) [] (w.forCall tape i))) :
    ReturnsInHanded {} Tryz.checked os 3 .any ((OpenSpec.ofChange Rows.indexNilSpec).preRow enc Tryz.prog Tryz.f3 Rows.indexNilRow.domain false Rows.indexNilRow.laid) (((OpenSpec.ofChange Rows.indexNilSpec).at F).post enc Tryz.prog Tryz.f3 false true false false) := by
  refine returnsInHanded_of_row (C := Tryz.checked) (s := OpenSpec.ofChange Rows.indexNilSpec) own started (by kernel_rfl) Tryz.func3 hw ?_
  intro W base args ds gs before hval hW _ _ _ hL _ _
  have hok : Go.Ex.ArgsOk Tryz.checked.prog W base Tryz.f3.params args := ⟨@hval⟩
  exact indexNil_contract H enc W base args ds gs before hok hW hL

theorem indexNil_lifted (os : Os) (started : os.Started) (H : Type) (enc : TypeId × Value → H) (F : Stop.Interp) :
    ReturnsInHanded {} Tryz.checked os 3 .any ((OpenSpec.ofChange Rows.indexNilSpec).preRow enc Tryz.prog Tryz.f3 Rows.indexNilRow.domain false Rows.indexNilRow.laid) (((OpenSpec.ofChange Rows.indexNilSpec).at F).post enc Tryz.prog Tryz.f3 false true false false) :=
  indexNil_contr os started H enc F (indexNil_wit os enc)

theorem indexNil_said : Rows.IndexNilSaid :=
  OpenClaim.holds_of_cond 3 Tryz.f3 rfl rfl rfl rfl rfl rfl rfl ⟨rfl, rfl, rfl, rfl, rfl⟩ rfl rfl rfl rfl rfl (by kernel_rfl) Tryz.func3 indexNil_facts indexNil_inst indexNil_wrap
    (fun os started H enc _ F => by rw [OpenClaim.pre_eq_preRow]; exact indexNil_lifted os started H enc F)

theorem indexNil_noStand : (Tryz.f3.params.toList.all fun t => !(Tryz.pinned.checked.prog.wantsStandIn t)) = true := by kernel_rfl
theorem indexNil_plain (f : FuncId) (fn : Func) (hf : Tryz.pinned.checked.prog.funcNamed "roster/rosterlaw14.IndexNil" = some f) (hfn : Tryz.pinned.checked.prog.funcs[f]? = some fn) :
    true = Tryz.pinned.checked.prog.looks [] ∧ ∀ (j : Nat) t, fn.params[j]? = some t → Tryz.pinned.checked.prog.wantsStandIn t = false := by
  obtain rfl : f = 3 := Option.some.inj (indexNil_named.symm.trans hf) |>.symm
  obtain rfl : fn = Tryz.f3 := (Option.some.inj (Tryz.func3.symm.trans hfn)).symm
  refine ⟨indexNil_looks, fun j t ht => ?_⟩
  have h := indexNil_noStand
  rw [List.all_eq_true] at h
  simpa using h t (List.mem_of_getElem? (by simpa using ht))

/-- THE CARD. -/
theorem indexNil : Rows.IndexNilCardSaid :=
  Claim7.holds_tied_plain_at .later [] _ _ _ _ indexNil_said (fun _ h => by cases h) indexNil_wfT (fun _ h => by cases h) indexNil_row_tie rfl ⟨rfl, rfl⟩ indexNil_main rfl indexNil_plain indexNil_goes
end Go.Proofs.YtkidamemnogojaaGreatDoor
