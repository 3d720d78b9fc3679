/-
  roster/rosterlaw16.ShapeNormal answers true: the card, tied to the program's text. What it calls is walked; its closed call is run by the abstract machine. Conditions: the listed package-level variables hold what the program's text lays.
-/
import Derived.Test.YtdkfmckbeagenaaGreatDoorCards
import Derived.Test.YtdkfmckbeagenaaGreatDoorExArgs
import Derived.Test.YtdkfmckbeagenaaGreatDoorTie
import Derived.Test.YtdkfmckbeagenaaGreatDoorShapeNormalWit
import Derived.Test.YtdkfmckbeagenaaGreatDoorQH8
import Derived.Test.YtdkfmckbeagenaaGreatDoorQF2
import Derived.Test.YtdkfmckbeagenaaGreatDoorShapeNormalF5
namespace Go.Proofs.YtdkfmckbeagenaaGreatDoor
open Go.ChangeShapes Go.WideShapes Go.ChangeAt Go.RowKit Go.RankLaw Go.FltLaw

theorem shapeNormal_laidOut : laidOutB Tryz.prog = true := by kernel_rfl
theorem shapeNormal_readable : (Tryz.f3.params.toList.all fun t => Tryz.prog.readableRec t && decide (t < Tryz.prog.types.size)) = true := by kernel_rfl
theorem shapeNormal_contract (H : Type) (enc : TypeId × Value → H) (W : World) (base : Nat) (args : Array Value) (ds gs : List (DataW H)) (before : List MemPlace)
  (hval : Go.Ex.ArgsOk Tryz.checked.prog W base Tryz.f3.params args)
  (hW : DataW.Whole enc Tryz.prog Tryz.f3.params.toList Rows.shapeNormalSpec.vars false W args.toList ds gs before)
  (hsz : (DataW.weightsEach Tryz.prog (Tryz.f3.params.toList ++ (OpenSpec.ofChange Rows.shapeNormalSpec).bare.plain.varTypes Tryz.prog) (ds ++ gs)).all (· ≤ reachBytes) = true)
  (hL : laidMetH Tryz.prog Rows.shapeNormalRow.laid W) (hsh : W.ShapedOpen Tryz.prog) :
  Calls Tryz.prog 3 args W fun e W' => ∃ v, e = .returned v ∧ Rows.shapeNormalSpec.post enc Tryz.prog Tryz.f3 false true false false W args v W' := by
 have hv := vars_ok0 (laid := Rows.shapeNormalRow.laid) shapeNormal_w4 (by kernel_rfl) hL
 have hW' := hW
 obtain ⟨p, q, hA0, hV, rfl, hfz, hnd⟩ := hW
 have hA : DataW.TrodAll enc Tryz.prog W 0 (fun _ => true) true Tryz.f3.params.toList args.toList ds p := hA0
 rw [Tryz.params3] at hA hsz
 obtain ⟨v0, vs1, d0, ds1, a0, b0, e0, rfl, rfl, h0, hA1⟩ := trodAll_cons hA
 obtain ⟨rfl, rfl, rfl⟩ := trodAll_nil hA1
 have e1 : args = #[v0] := by rw [← Array.toArray_toList (xs := args), e0]
 subst e1
 rw [List.all_eq_true] at hsz
 have k0 : OkV Tryz.checked.prog W base 26 v0 := okV_at (j := 0) hval (by rw [Tryz.params3]; rfl) rfl
 have hw0 : ∀ x ∈ d0.weights Tryz.prog 26, x ≤ reachBytes := fun x hx => by
  have := hsz x (by
   simp only [List.cons_append, List.nil_append, DataW.weightsEach, List.mem_append]
   exact .inl hx)
  simpa using this
 obtain ⟨n0, f0, hf0⟩ := flt_arg Tryz.underlying26 (by kernel_rfl) (by kernel_rfl) (by kernel_rfl) Tryz.underlying22 Tryz.underlying23 Tryz.underlying9 Tryz.underlying9 Tryz.underlying9 Tryz.underlying24 Tryz.underlying9 Tryz.underlying9 Tryz.underlying4 Tryz.underlying9 (by kernel_rfl) (by kernel_rfl) k0 h0 hw0
 refine (shapeNormal_walk W n0 f0 v0 hf0 hsh (size_of hsh) hv).mono fun e W' ⟨he, hb⟩ => ?_
 subst he
 refine ⟨_, rfl, Go.Ex.post_true (b := 4) shapeNormal_laidOut shapeNormal_readable rfl (by kernel_rfl) Tryz.underlying4 (fun ds hl => ?_) hW' hb⟩
 rw [Tryz.params3] at hl
 match ds, hl with
 | [d0], _ => rfl
theorem shapeNormal_row (os : Os) {H : Type} (enc : TypeId × Value → H) : (OpenSpec.ofChange Rows.shapeNormalSpec).preRow enc Tryz.prog Tryz.f3 Rows.shapeNormalRow.domain false Rows.shapeNormalRow.laid (wOf0 os #[.agg #[.int .i8 0, .slice none 0 0, .string ⟨#[]⟩, .string ⟨#[]⟩, .string ⟨#[]⟩, .slice none 0 0, .string ⟨#[]⟩, .string ⟨#[]⟩, .bool false]]) #[.agg #[.int .i8 0, .slice none 0 0, .string ⟨#[]⟩, .string ⟨#[]⟩, .string ⟨#[]⟩, .slice none 0 0, .string ⟨#[]⟩, .string ⟨#[]⟩, .bool false]] :=
 OpenSpec.preRow_of_cond 8 (shapeNormal_reads os enc) (by kernel_rfl) (fun k hk => by cases hk) (by kernel_rfl) (shapeNormal_w5 os)
theorem shapeNormal_wit (os : Os) {H : Type} (enc : TypeId × Value → H) : ∃ (w : World) (tape : Tape) (i : Input), w.os = os ∧ (w.forCall tape i).Shaped Tryz.checked.prog ∧ i.vars = [] ∧ Input.okWide Tryz.checked.prog (w.forCall tape i) .any w.heap.size 3 i ∧
   (OpenSpec.ofChange Rows.shapeNormalSpec).preRow enc Tryz.checked.prog Tryz.f3 Rows.shapeNormalRow.domain false Rows.shapeNormalRow.laid (w.forCall tape i).memory i.args ∧ ({ } : Assume).holds Tryz.checked.prog (lone (Frame.enter Tryz.checked.prog 3 i.args .normal) [] (w.forCall tape i)) :=
 witness_row_atRef (enc := enc) (C := Tryz.checked) false (laidWorld0 os) #[.agg #[.int .i8 0, .slice none 0 0, .string ⟨#[]⟩, .string ⟨#[]⟩, .string ⟨#[]⟩, .slice none 0 0, .string ⟨#[]⟩, .string ⟨#[]⟩, .bool false]] (shapeNormal_w6 os) (shapeNormal_w1 os) (shapeNormal_w2 os) (shapeNormal_w3 os) (shapeNormal_row os enc)
theorem shapeNormal_contr (os : Os) (started : os.Started) (H : Type) (enc : TypeId × Value → H) (F : Stop.Interp) (hw : ∃ (w : World) (tape : Tape) (i : Input), w.os = os ∧ (w.forCall tape i).Shaped Tryz.checked.prog ∧ i.vars = [] ∧ Input.okWide Tryz.checked.prog (w.forCall tape i) .any w.heap.size 3 i ∧
   (OpenSpec.ofChange Rows.shapeNormalSpec).preRow enc Tryz.checked.prog Tryz.f3 Rows.shapeNormalRow.domain false Rows.shapeNormalRow.laid (w.forCall tape i).memory i.args ∧ ({ } : Assume).holds Tryz.checked.prog (lone (Frame.enter Tryz.checked.prog 3 i.args .normal) [] (w.forCall tape i))) :
  ReturnsInHanded {} Tryz.checked os 3 .any ((OpenSpec.ofChange Rows.shapeNormalSpec).preRow enc Tryz.prog Tryz.f3 Rows.shapeNormalRow.domain false Rows.shapeNormalRow.laid) (((OpenSpec.ofChange Rows.shapeNormalSpec).at F).post enc Tryz.prog Tryz.f3 false true false false) := by
 refine returnsInHanded_of_row (C := Tryz.checked) (s := OpenSpec.ofChange Rows.shapeNormalSpec) own started (by kernel_rfl) Tryz.func3 hw ?_
 intro W base args ds gs before hval hW _ _ hsz hL hsh _
 have hok : Go.Ex.ArgsOk Tryz.checked.prog W base Tryz.f3.params args := ⟨@hval⟩
 exact shapeNormal_contract H enc W base args ds gs before hok hW hsz hL hsh
theorem shapeNormal_lifted (os : Os) (started : os.Started) (H : Type) (enc : TypeId × Value → H) (F : Stop.Interp) :
  ReturnsInHanded {} Tryz.checked os 3 .any ((OpenSpec.ofChange Rows.shapeNormalSpec).preRow enc Tryz.prog Tryz.f3 Rows.shapeNormalRow.domain false Rows.shapeNormalRow.laid) (((OpenSpec.ofChange Rows.shapeNormalSpec).at F).post enc Tryz.prog Tryz.f3 false true false false) :=
 shapeNormal_contr os started H enc F (shapeNormal_wit os enc)
theorem shapeNormal_said : Rows.ShapeNormalSaid :=
 OpenClaim.holds_of_cond 3 Tryz.f3 rfl rfl rfl rfl rfl rfl rfl ⟨rfl, rfl, rfl, rfl, rfl⟩ rfl rfl rfl rfl rfl (by kernel_rfl) Tryz.func3 shapeNormal_facts shapeNormal_inst shapeNormal_wrap
  (fun os started H enc _ F => by rw [OpenClaim.pre_eq_preRow]; exact shapeNormal_lifted os started H enc F)
theorem shapeNormal_noStand : (Tryz.f3.params.toList.all fun t => !(Tryz.pinned.checked.prog.wantsStandIn t)) = true := by kernel_rfl
theorem shapeNormal_plain (f : FuncId) (fn : Func) (hf : Tryz.pinned.checked.prog.funcNamed "roster/rosterlaw16.ShapeNormal" = some f) (hfn : Tryz.pinned.checked.prog.funcs[f]? = some fn) :
  true = Tryz.pinned.checked.prog.looks [] ∧ ∀ (j : Nat) t, fn.params[j]? = some t → Tryz.pinned.checked.prog.wantsStandIn t = false := by
 obtain rfl : f = 3 := Option.some.inj (shapeNormal_named.symm.trans hf) |>.symm
 obtain rfl : fn = Tryz.f3 := (Option.some.inj (Tryz.func3.symm.trans hfn)).symm
 refine ⟨shapeNormal_looks, fun j t ht => ?_⟩
 have h := shapeNormal_noStand
 rw [List.all_eq_true] at h
 simpa using h t (List.mem_of_getElem? (by simpa using ht))
theorem shapeNormal : Rows.ShapeNormalCardSaid :=
 Claim7.holds_tied_plain_at .later [] _ _ _ _ shapeNormal_said (fun _ h => by cases h) shapeNormal_wfT (fun _ h => by cases h) shapeNormal_row_tie rfl ⟨rfl, rfl⟩ shapeNormal_main rfl shapeNormal_plain shapeNormal_goes
end Go.Proofs.YtdkfmckbeagenaaGreatDoor
