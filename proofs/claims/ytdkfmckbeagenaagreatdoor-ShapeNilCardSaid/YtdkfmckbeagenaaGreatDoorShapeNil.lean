/-
  roster/rosterlaw16.ShapeNil answers true: the card, tied to the program's text. What it calls is walked; its closed call is run by the abstract machine. Conditions: the listed package-level variables hold what the program's text lays.
-/
import Derived.Test.YtdkfmckbeagenaaGreatDoorCards
import Derived.Test.YtdkfmckbeagenaaGreatDoorExArgs
import Derived.Test.YtdkfmckbeagenaaGreatDoorTie
import Derived.Test.YtdkfmckbeagenaaGreatDoorShapeNilWit
import Derived.Test.YtdkfmckbeagenaaGreatDoorWalkShapeNil
import Derived.Test.YtdkfmckbeagenaaGreatDoorFltIn
import Derived.Test.YtdkfmckbeagenaaGreatDoorShapeNilF5
namespace Go.Proofs.YtdkfmckbeagenaaGreatDoor
open Go.ChangeShapes Go.WideShapes Go.ChangeAt Go.RowKit Go.RankLaw Go.FltLaw

theorem shapeNil_laidOut : laidOutB Tryz.prog = true := by kernel_rfl
theorem shapeNil_readable : (Tryz.f4.params.toList.all fun t => Tryz.prog.readableRec t && decide (t < Tryz.prog.types.size)) = true := by kernel_rfl
theorem shapeNil_contract (H : Type) (enc : TypeId × Value → H) (W : World) (base : Nat) (args : Array Value) (ds gs : List (DataW H)) (before : List MemPlace)
    (hval : Go.Ex.ArgsOk Tryz.checked.prog W base Tryz.f4.params args)
    (hW : DataW.Whole enc Tryz.prog Tryz.f4.params.toList Rows.shapeNilSpec.vars false W args.toList ds gs before)
    (hsz : (DataW.weightsEach Tryz.prog (Tryz.f4.params.toList ++ (OpenSpec.ofChange Rows.shapeNilSpec).bare.plain.varTypes Tryz.prog) (ds ++ gs)).all (· ≤ reachBytes) = true)
    (hL : laidMetH Tryz.prog Rows.shapeNilRow.laid W) (hsh : W.ShapedOpen Tryz.prog) :
    Calls Tryz.prog 4 args W fun e W' => ∃ v, e = .returned v ∧ Rows.shapeNilSpec.post enc Tryz.prog Tryz.f4 false true false false W args v W' := by
  have hv := vars_ok0 (laid := Rows.shapeNilRow.laid) shapeNil_w4 (by kernel_rfl) hL
  have hW' := hW
  obtain ⟨p, q, hA0, hV, rfl, hfz, hnd⟩ := hW
  have hA : DataW.TrodAll enc Tryz.prog W 0 (fun _ => true) true Tryz.f4.params.toList args.toList ds p := hA0
  rw [Tryz.params4] at hA hsz
  obtain ⟨v0, vs1, d0, ds1, a0, b0, e0, rfl, rfl, h0, hA1⟩ := trodAll_cons hA
  obtain ⟨rfl, rfl, rfl⟩ := trodAll_nil hA1
  have e1 : args = #[v0] := by rw [← Array.toArray_toList (xs := args), e0]
  subst e1
  rw [List.all_eq_true] at hsz
  have k0 : OkV Tryz.checked.prog W base 26 v0 := okV_at (j := 0) hval (by rw [Tryz.params4]; rfl) rfl
  have hw0 : ∀ x ∈ d0.weights Tryz.prog 26, x ≤ reachBytes := fun x hx => by
    have := hsz x (by
      simp only [List.cons_append, List.nil_append, DataW.weightsEach, List.mem_append]
      exact .inl hx)
    simpa using this
  obtain ⟨n0, f0, hf0⟩ := flt_arg Tryz.underlying26 (by kernel_rfl) (by kernel_rfl) (by kernel_rfl) Tryz.underlying22 Tryz.underlying23 Tryz.underlying9 Tryz.underlying9 Tryz.underlying9 Tryz.underlying24 Tryz.underlying9 Tryz.underlying9 Tryz.underlying4 Tryz.underlying9 (by kernel_rfl) (by kernel_rfl) k0 h0 hw0
  refine (shapeNil_walk W n0 f0 v0 hf0 hsh (size_of hsh) hv).mono fun e W' ⟨he, hb⟩ => ?_
  subst he
  refine ⟨_, rfl, Go.Ex.post_true (b := 4) shapeNil_laidOut shapeNil_readable rfl (by kernel_rfl) Tryz.underlying4 (fun ds hl => ?_) hW' hb⟩
  rw [Tryz.params4] at hl
  match ds, hl with
  | [d0], _ => rfl

theorem shapeNil_row (os : Os) {H : Type} (enc : TypeId × Value → H) : (OpenSpec.ofChange Rows.shapeNilSpec).preRow enc Tryz.prog Tryz.f4 Rows.shapeNilRow.domain false Rows.shapeNilRow.laid (wOf0 os #[.agg #[.int .i8 0, .slice none 0 0, .string ⟨#[]⟩, .string ⟨#[]⟩, .string ⟨#[]⟩, .slice none 0 0, .string ⟨#[]⟩, .string ⟨#[]⟩, .bool false]]) #[.agg #[.int .i8 0, .slice none 0 0, .string ⟨#[]⟩, .string ⟨#[]⟩, .string ⟨#[]⟩, .slice none 0 0, .string ⟨#[]⟩, .string ⟨#[]⟩, .bool false]] :=
  OpenSpec.preRow_of_cond 8 (shapeNil_reads os enc) (by kernel_rfl) (fun k hk => by cases hk) (by kernel_rfl) (shapeNil_w5 os)

theorem shapeNil_wit (os : Os) {H : Type} (enc : TypeId × Value → H) : ∃ (w : World) (tape : Tape) (i : Input), w.os = os ∧ (w.forCall tape i).Shaped Tryz.checked.prog ∧ i.vars = [] ∧ Input.okWide Tryz.checked.prog (w.forCall tape i) .any w.heap.size 4 i ∧
      (OpenSpec.ofChange Rows.shapeNilSpec).preRow enc Tryz.checked.prog Tryz.f4 Rows.shapeNilRow.domain false Rows.shapeNilRow.laid (w.forCall tape i).memory i.args ∧ ({ } : Assume).holds Tryz.checked.prog (lone (Frame.enter Tryz.checked.prog 4 i.args .normal) [] (w.forCall tape i)) :=
  witness_row_atRef (enc := enc) (C := Tryz.checked) false (laidWorld0 os) #[.agg #[.int .i8 0, .slice none 0 0, .string ⟨#[]⟩, .string ⟨#[]⟩, .string ⟨#[]⟩, .slice none 0 0, .string ⟨#[]⟩, .string ⟨#[]⟩, .bool false]] (shapeNil_w6 os) (shapeNil_w1 os) (shapeNil_w2 os) (shapeNil_w3 os) (shapeNil_row os enc)

theorem shapeNil_contr (os : Os) (started : os.Started) (H : Type) (enc : TypeId × Value → H) (F : Stop.Interp) (hw : ∃ (w : World) (tape : Tape) (i : Input), w.os = os ∧ (w.forCall tape i).Shaped Tryz.checked.prog ∧ i.vars = [] ∧ Input.okWide Tryz.checked.prog (w.forCall tape i) .any w.heap.size 4 i ∧
      (OpenSpec.ofChange Rows.shapeNilSpec).preRow enc Tryz.checked.prog Tryz.f4 Rows.shapeNilRow.domain false Rows.shapeNilRow.laid (w.forCall tape i).memory i.args ∧ ({ } : Assume).holds Tryz.checked.prog (lone (Frame.enter Tryz.checked.prog 4 i.args .normal) [] (w.forCall tape i))) :
    ReturnsInHanded {} Tryz.checked os 4 .any ((OpenSpec.ofChange Rows.shapeNilSpec).preRow enc Tryz.prog Tryz.f4 Rows.shapeNilRow.domain false Rows.shapeNilRow.laid) (((OpenSpec.ofChange Rows.shapeNilSpec).at F).post enc Tryz.prog Tryz.f4 false true false false) := by
  refine returnsInHanded_of_row (C := Tryz.checked) (s := OpenSpec.ofChange Rows.shapeNilSpec) own started (by kernel_rfl) Tryz.func4 hw ?_
  intro W base args ds gs before hval hW _ _ hsz hL hsh _
  have hok : Go.Ex.ArgsOk Tryz.checked.prog W base Tryz.f4.params args := ⟨@hval⟩
  exact shapeNil_contract H enc W base args ds gs before hok hW hsz hL hsh

theorem shapeNil_lifted (os : Os) (started : os.Started) (H : Type) (enc : TypeId × Value → H) (F : Stop.Interp) :
    ReturnsInHanded {} Tryz.checked os 4 .any ((OpenSpec.ofChange Rows.shapeNilSpec).preRow enc Tryz.prog Tryz.f4 Rows.shapeNilRow.domain false Rows.shapeNilRow.laid) (((OpenSpec.ofChange Rows.shapeNilSpec).at F).post enc Tryz.prog Tryz.f4 false true false false) :=
  shapeNil_contr os started H enc F (shapeNil_wit os enc)

theorem shapeNil_said : Rows.ShapeNilSaid :=
  OpenClaim.holds_of_cond 4 Tryz.f4 rfl rfl rfl rfl rfl rfl rfl ⟨rfl, rfl, rfl, rfl, rfl⟩ rfl rfl rfl rfl rfl (by kernel_rfl) Tryz.func4 shapeNil_facts shapeNil_inst shapeNil_wrap
    (fun os started H enc _ F => by rw [OpenClaim.pre_eq_preRow]; exact shapeNil_lifted os started H enc F)

theorem shapeNil_noStand : (Tryz.f4.params.toList.all fun t => !(Tryz.pinned.checked.prog.wantsStandIn t)) = true := by kernel_rfl
theorem shapeNil_plain (f : FuncId) (fn : Func) (hf : Tryz.pinned.checked.prog.funcNamed "roster/rosterlaw16.ShapeNil" = some f) (hfn : Tryz.pinned.checked.prog.funcs[f]? = some fn) :
    true = Tryz.pinned.checked.prog.looks [] ∧ ∀ (j : Nat) t, fn.params[j]? = some t → Tryz.pinned.checked.prog.wantsStandIn t = false := by
  obtain rfl : f = 4 := Option.some.inj (shapeNil_named.symm.trans hf) |>.symm
  obtain rfl : fn = Tryz.f4 := (Option.some.inj (Tryz.func4.symm.trans hfn)).symm
  refine ⟨shapeNil_looks, fun j t ht => ?_⟩
  have h := shapeNil_noStand
  rw [List.all_eq_true] at h
  simpa using h t (List.mem_of_getElem? (by simpa using ht))

/-- THE CARD. -/
theorem shapeNil : Rows.ShapeNilCardSaid :=
  Claim7.holds_tied_plain_at .later [] _ _ _ _ shapeNil_said (fun _ h => by cases h) shapeNil_wfT (fun _ h => by cases h) shapeNil_row_tie rfl ⟨rfl, rfl⟩ shapeNil_main rfl shapeNil_plain shapeNil_goes
end Go.Proofs.YtdkfmckbeagenaaGreatDoor
