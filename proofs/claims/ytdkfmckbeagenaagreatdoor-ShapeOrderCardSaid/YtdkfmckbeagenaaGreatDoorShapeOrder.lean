/-
  roster/rosterlaw16.ShapeOrder answers true: the card, tied to the program's text. What it calls is walked; its closed call is run by the abstract machine. Conditions: the listed package-level variables hold what the program's text lays.
-/
import Derived.Test.YtdkfmckbeagenaaGreatDoorCards
import Derived.Test.YtdkfmckbeagenaaGreatDoorExArgs
import Derived.Test.YtdkfmckbeagenaaGreatDoorTie
import Derived.Test.YtdkfmckbeagenaaGreatDoorShapeOrderWit
import Derived.Test.YtdkfmckbeagenaaGreatDoorQF1
import Derived.Test.YtdkfmckbeagenaaGreatDoorQF2
import Derived.Test.YtdkfmckbeagenaaGreatDoorShapeOrderF5
namespace Go.Proofs.YtdkfmckbeagenaaGreatDoor
open Go.ChangeShapes Go.WideShapes Go.ChangeAt Go.RowKit Go.RankLaw Go.FltLaw

theorem shapeOrder_laidOut : laidOutB Tryz.prog = true := by kernel_rfl
theorem shapeOrder_readable : (Tryz.f5.params.toList.all fun t => Tryz.prog.readableRec t && decide (t < Tryz.prog.types.size)) = true := by kernel_rfl
theorem shapeOrder_contract (H : Type) (enc : TypeId × Value → H) (W : World) (base : Nat) (args : Array Value) (ds gs : List (DataW H)) (before : List MemPlace)
    (hval : Go.Ex.ArgsOk Tryz.checked.prog W base Tryz.f5.params args)
    (hW : DataW.Whole enc Tryz.prog Tryz.f5.params.toList Rows.shapeOrderSpec.vars false W args.toList ds gs before)
    (hsz : (DataW.weightsEach Tryz.prog (Tryz.f5.params.toList ++ (OpenSpec.ofChange Rows.shapeOrderSpec).bare.plain.varTypes Tryz.prog) (ds ++ gs)).all (· ≤ reachBytes) = true)
    (hL : laidMetH Tryz.prog Rows.shapeOrderRow.laid W) (hsh : W.ShapedOpen Tryz.prog) :
    Calls Tryz.prog 5 args W fun e W' => ∃ v, e = .returned v ∧ Rows.shapeOrderSpec.post enc Tryz.prog Tryz.f5 false true false false W args v W' := by
  have hv := vars_ok0 (laid := Rows.shapeOrderRow.laid) shapeOrder_w4 (by kernel_rfl) hL
  have hW' := hW
  obtain ⟨p, q, hA0, hV, rfl, hfz, hnd⟩ := hW
  have hA : DataW.TrodAll enc Tryz.prog W 0 (fun _ => true) true Tryz.f5.params.toList args.toList ds p := hA0
  rw [Tryz.params5] at hA hsz
  obtain ⟨v0, vs1, d0, ds1, a0, b0, e0, rfl, rfl, h0, hA1⟩ := trodAll_cons hA
  obtain ⟨v1, vs2, d1, ds2, a1, b1, rfl, rfl, rfl, h1, hA2⟩ := trodAll_cons hA1
  obtain ⟨rfl, rfl, rfl⟩ := trodAll_nil hA2
  have e1 : args = #[v0, v1] := by rw [← Array.toArray_toList (xs := args), e0]
  subst e1
  rw [List.all_eq_true] at hsz
  have k0 : OkV Tryz.checked.prog W base 26 v0 := okV_at (j := 0) hval (by rw [Tryz.params5]; rfl) rfl
  have hw0 : ∀ x ∈ d0.weights Tryz.prog 26, x ≤ reachBytes := fun x hx => by
    have := hsz x (by
      simp only [List.cons_append, List.nil_append, DataW.weightsEach, List.mem_append]
      exact .inl hx)
    simpa using this
  obtain ⟨n0, f0, hf0⟩ := flt_arg Tryz.underlying26 (by kernel_rfl) (by kernel_rfl) (by kernel_rfl) Tryz.underlying22 Tryz.underlying23 Tryz.underlying9 Tryz.underlying9 Tryz.underlying9 Tryz.underlying24 Tryz.underlying9 Tryz.underlying9 Tryz.underlying4 Tryz.underlying9 (by kernel_rfl) (by kernel_rfl) k0 h0 hw0
  have k1 : OkV Tryz.checked.prog W base 26 v1 := okV_at (j := 1) hval (by rw [Tryz.params5]; rfl) rfl
  have hw1 : ∀ x ∈ d1.weights Tryz.prog 26, x ≤ reachBytes := fun x hx => by
    have := hsz x (by
      simp only [List.cons_append, List.nil_append, DataW.weightsEach, List.mem_append]
      exact .inr (.inl hx))
    simpa using this
  obtain ⟨n1, f1, hf1⟩ := flt_arg Tryz.underlying26 (by kernel_rfl) (by kernel_rfl) (by kernel_rfl) Tryz.underlying22 Tryz.underlying23 Tryz.underlying9 Tryz.underlying9 Tryz.underlying9 Tryz.underlying24 Tryz.underlying9 Tryz.underlying9 Tryz.underlying4 Tryz.underlying9 (by kernel_rfl) (by kernel_rfl) k1 h1 hw1
  refine (shapeOrder_walk W n0 f0 v0 hf0 n1 f1 v1 hf1 hsh (size_of hsh) hv).mono fun e W' ⟨he, hb⟩ => ?_
  subst he
  refine ⟨_, rfl, Go.Ex.post_true (b := 4) shapeOrder_laidOut shapeOrder_readable rfl (by kernel_rfl) Tryz.underlying4 (fun ds hl => ?_) hW' hb⟩
  rw [Tryz.params5] at hl
  match ds, hl with
  | [d0, d1], _ => rfl

theorem shapeOrder_row (os : Os) {H : Type} (enc : TypeId × Value → H) : (OpenSpec.ofChange Rows.shapeOrderSpec).preRow enc Tryz.prog Tryz.f5 Rows.shapeOrderRow.domain false Rows.shapeOrderRow.laid (wOf0 os #[.agg #[.int .i8 0, .slice none 0 0, .string ⟨#[]⟩, .string ⟨#[]⟩, .string ⟨#[]⟩, .slice none 0 0, .string ⟨#[]⟩, .string ⟨#[]⟩, .bool false], .agg #[.int .i8 0, .slice none 0 0, .string ⟨#[]⟩, .string ⟨#[]⟩, .string ⟨#[]⟩, .slice none 0 0, .string ⟨#[]⟩, .string ⟨#[]⟩, .bool false]]) #[.agg #[.int .i8 0, .slice none 0 0, .string ⟨#[]⟩, .string ⟨#[]⟩, .string ⟨#[]⟩, .slice none 0 0, .string ⟨#[]⟩, .string ⟨#[]⟩, .bool false], .agg #[.int .i8 0, .slice none 0 0, .string ⟨#[]⟩, .string ⟨#[]⟩, .string ⟨#[]⟩, .slice none 0 0, .string ⟨#[]⟩, .string ⟨#[]⟩, .bool false]] :=
  OpenSpec.preRow_of_cond 8 (shapeOrder_reads os enc) (by kernel_rfl) (fun k hk => by cases hk) (by kernel_rfl) (shapeOrder_w5 os)

theorem shapeOrder_wit (os : Os) {H : Type} (enc : TypeId × Value → H) : ∃ (w : World) (tape : Tape) (i : Input), w.os = os ∧ (w.forCall tape i).Shaped Tryz.checked.prog ∧ i.vars = [] ∧ Input.okWide Tryz.checked.prog (w.forCall tape i) .any w.heap.size 5 i ∧
      (OpenSpec.ofChange Rows.shapeOrderSpec).preRow enc Tryz.checked.prog Tryz.f5 Rows.shapeOrderRow.domain false Rows.shapeOrderRow.laid (w.forCall tape i).memory i.args ∧ ({ } : Assume).holds Tryz.checked.prog (lone (Frame.enter Tryz.checked.prog 5 i.args .normal) [] (w.forCall tape i)) :=
  witness_row_atRef (enc := enc) (C := Tryz.checked) false (laidWorld0 os) #[.agg #[.int .i8 0, .slice none 0 0, .string ⟨#[]⟩, .string ⟨#[]⟩, .string ⟨#[]⟩, .slice none 0 0, .string ⟨#[]⟩, .string ⟨#[]⟩, .bool false], .agg #[.int .i8 0, .slice none 0 0, .string ⟨#[]⟩, .string ⟨#[]⟩, .string ⟨#[]⟩, .slice none 0 0, .string ⟨#[]⟩, .string ⟨#[]⟩, .bool false]] (shapeOrder_w6 os) (shapeOrder_w1 os) (shapeOrder_w2 os) (shapeOrder_w3 os) (shapeOrder_row os enc)

theorem shapeOrder_contr (os : Os) (started : os.Started) (H : Type) (enc : TypeId × Value → H) (F : Stop.Interp) (hw : ∃ (w : World) (tape : Tape) (i : Input), w.os = os ∧ (w.forCall tape i).Shaped Tryz.checked.prog ∧ i.vars = [] ∧ Input.okWide Tryz.checked.prog (w.forCall tape i) .any w.heap.size 5 i ∧
      (OpenSpec.ofChange Rows.shapeOrderSpec).preRow enc Tryz.checked.prog Tryz.f5 Rows.shapeOrderRow.domain false Rows.shapeOrderRow.laid (w.forCall tape i).memory i.args ∧ ({ } : Assume).holds Tryz.checked.prog (lone (Frame.enter Tryz.checked.prog 5 i.args .normal) [] (w.forCall tape i))) :
    ReturnsInHanded {} Tryz.checked os 5 .any ((OpenSpec.ofChange Rows.shapeOrderSpec).preRow enc Tryz.prog Tryz.f5 Rows.shapeOrderRow.domain false Rows.shapeOrderRow.laid) (((OpenSpec.ofChange Rows.shapeOrderSpec).at F).post enc Tryz.prog Tryz.f5 false true false false) := by
  refine returnsInHanded_of_row (C := Tryz.checked) (s := OpenSpec.ofChange Rows.shapeOrderSpec) own started (by kernel_rfl) Tryz.func5 hw ?_
  intro W base args ds gs before hval hW _ _ hsz hL hsh _
  have hok : Go.Ex.ArgsOk Tryz.checked.prog W base Tryz.f5.params args := ⟨@hval⟩
  exact shapeOrder_contract H enc W base args ds gs before hok hW hsz hL hsh

theorem shapeOrder_lifted (os : Os) (started : os.Started) (H : Type) (enc : TypeId × Value → H) (F : Stop.Interp) :
    ReturnsInHanded {} Tryz.checked os 5 .any ((OpenSpec.ofChange Rows.shapeOrderSpec).preRow enc Tryz.prog Tryz.f5 Rows.shapeOrderRow.domain false Rows.shapeOrderRow.laid) (((OpenSpec.ofChange Rows.shapeOrderSpec).at F).post enc Tryz.prog Tryz.f5 false true false false) :=
  shapeOrder_contr os started H enc F (shapeOrder_wit os enc)

theorem shapeOrder_said : Rows.ShapeOrderSaid :=
  OpenClaim.holds_of_cond 5 Tryz.f5 rfl rfl rfl rfl rfl rfl rfl ⟨rfl, rfl, rfl, rfl, rfl⟩ rfl rfl rfl rfl rfl (by kernel_rfl) Tryz.func5 shapeOrder_facts shapeOrder_inst shapeOrder_wrap
    (fun os started H enc _ F => by rw [OpenClaim.pre_eq_preRow]; exact shapeOrder_lifted os started H enc F)

theorem shapeOrder_noStand : (Tryz.f5.params.toList.all fun t => !(Tryz.pinned.checked.prog.wantsStandIn t)) = true := by kernel_rfl
theorem shapeOrder_plain (f : FuncId) (fn : Func) (hf : Tryz.pinned.checked.prog.funcNamed "roster/rosterlaw16.ShapeOrder" = some f) (hfn : Tryz.pinned.checked.prog.funcs[f]? = some fn) :
    true = Tryz.pinned.checked.prog.looks [] ∧ ∀ (j : Nat) t, fn.params[j]? = some t → Tryz.pinned.checked.prog.wantsStandIn t = false := by
  obtain rfl : f = 5 := Option.some.inj (shapeOrder_named.symm.trans hf) |>.symm
  obtain rfl : fn = Tryz.f5 := (Option.some.inj (Tryz.func5.symm.trans hfn)).symm
  refine ⟨shapeOrder_looks, fun j t ht => ?_⟩
  have h := shapeOrder_noStand
  rw [List.all_eq_true] at h
  simpa using h t (List.mem_of_getElem? (by simpa using ht))

/-- THE CARD. -/
theorem shapeOrder : Rows.ShapeOrderCardSaid :=
  Claim7.holds_tied_plain_at .later [] _ _ _ _ shapeOrder_said (fun _ h => by cases h) shapeOrder_wfT (fun _ h => by cases h) shapeOrder_row_tie rfl ⟨rfl, rfl⟩ shapeOrder_main rfl shapeOrder_plain shapeOrder_goes
end Go.Proofs.YtdkfmckbeagenaaGreatDoor
