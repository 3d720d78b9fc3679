/-
  roster/rosterlaw17.CostNil answers true: the card, tied to the program's text. What it calls is walked; its closed call is run by the abstract machine. Conditions: the listed package-level variables hold what the program's text lays.
-/
import Derived.Test.YtjclahnbohdcpaaGreatDoorCards
import Derived.Test.YtjclahnbohdcpaaGreatDoorExArgs
import Derived.Test.YtjclahnbohdcpaaGreatDoorTie
import Derived.Test.YtjclahnbohdcpaaGreatDoorCostNilWit
import Derived.Test.YtjclahnbohdcpaaGreatDoorWalkCostNil
import Derived.Test.YtjclahnbohdcpaaGreatDoorFltIn
import Derived.Test.YtjclahnbohdcpaaGreatDoorMoodsIn
import Derived.Test.YtjclahnbohdcpaaGreatDoorCostNilF5
namespace Go.Proofs.YtjclahnbohdcpaaGreatDoor
open Go.ChangeShapes Go.WideShapes Go.ChangeAt Go.RowKit Go.RankLaw Go.FltLaw

theorem costNil_laidOut : laidOutB Tryz.prog = true := by kernel_rfl
theorem costNil_readable : (Tryz.f3.params.toList.all fun t => Tryz.prog.readableRec t && decide (t < Tryz.prog.types.size)) = true := by kernel_rfl
theorem costNil_contract (H : Type) (enc : TypeId × Value → H) (W : World) (base : Nat) (args : Array Value) (ds gs : List (DataW H)) (before : List MemPlace)
    (hval : Go.Ex.ArgsOk Tryz.checked.prog W base Tryz.f3.params args)
    (hW : DataW.Whole enc Tryz.prog Tryz.f3.params.toList Rows.costNilSpec.vars false W args.toList ds gs before)
    (hsz : (DataW.weightsEach Tryz.prog (Tryz.f3.params.toList ++ (OpenSpec.ofChange Rows.costNilSpec).bare.plain.varTypes Tryz.prog) (ds ++ gs)).all (· ≤ reachBytes) = true)
    (hL : laidMetH Tryz.prog Rows.costNilRow.laid W) (hsh : W.ShapedOpen Tryz.prog) :
    Calls Tryz.prog 3 args W fun e W' => ∃ v, e = .returned v ∧ Rows.costNilSpec.post enc Tryz.prog Tryz.f3 false true false false W args v W' := by
  have hv := vars_ok0 (laid := Rows.costNilRow.laid) costNil_w4 (by kernel_rfl) (by kernel_rfl) hL
  have hW' := hW
  obtain ⟨p, q, hA0, hV, rfl, hfz, hnd⟩ := hW
  have hA : DataW.TrodAll enc Tryz.prog W 0 (fun _ => true) true Tryz.f3.params.toList args.toList ds p := hA0
  rw [Tryz.params3] at hA hsz
  obtain ⟨v0, vs1, d0, ds1, a0, b0, e0, rfl, rfl, h0, hA1⟩ := trodAll_cons hA
  obtain ⟨v1, vs2, d1, ds2, a1, b1, rfl, rfl, rfl, h1, hA2⟩ := trodAll_cons hA1
  obtain ⟨rfl, rfl, rfl⟩ := trodAll_nil hA2
  have e1 : args = #[v0, v1] := by rw [← Array.toArray_toList (xs := args), e0]
  subst e1
  rw [List.all_eq_true] at hsz
  have k0 : OkV Tryz.checked.prog W base 26 v0 := okV_at (j := 0) hval (by rw [Tryz.params3]; rfl) rfl
  have hw0 : ∀ x ∈ d0.weights Tryz.prog 26, x ≤ reachBytes := fun x hx => by
    have := hsz x (by
      simp only [List.cons_append, List.nil_append, DataW.weightsEach, List.mem_append]
      exact .inl hx)
    simpa using this
  obtain ⟨n0, f0, hf0⟩ := flt_arg Tryz.underlying26 (by kernel_rfl) (by kernel_rfl) (by kernel_rfl) Tryz.underlying22 Tryz.underlying23 Tryz.underlying9 Tryz.underlying9 Tryz.underlying9 Tryz.underlying24 Tryz.underlying9 Tryz.underlying9 Tryz.underlying4 Tryz.underlying9 (by kernel_rfl) (by kernel_rfl) k0 h0 hw0
  have k1 : OkV Tryz.checked.prog W base 31 v1 := okV_at (j := 1) hval (by rw [Tryz.params3]; rfl) rfl
  obtain ⟨c1, i1, w1, n1, m1, q1, y1, z1, rfl⟩ := moods_in Tryz.underlying31 (by kernel_rfl) (by rfl) (by kernel_rfl) Tryz.underlying27 Tryz.underlying4 Tryz.underlying28 Tryz.underlying29 Tryz.underlying4 Tryz.underlying4 k1 h1
  refine (costNil_walk W n0 f0 v0 hf0 c1 i1 w1 n1 m1 q1 y1 z1 hsh (size_of hsh) hv).mono fun e W' ⟨he, hb⟩ => ?_
  subst he
  refine ⟨_, rfl, Go.Ex.post_true (b := 4) costNil_laidOut costNil_readable rfl (by kernel_rfl) Tryz.underlying4 (fun ds hl => ?_) hW' hb⟩
  rw [Tryz.params3] at hl
  match ds, hl with
  | [d0, d1], _ => rfl

theorem costNil_row (os : Os) {H : Type} (enc : TypeId × Value → H) : (OpenSpec.ofChange Rows.costNilSpec).preRow enc Tryz.prog Tryz.f3 Rows.costNilRow.domain false Rows.costNilRow.laid (wOf0 os #[.agg #[.int .i8 0, .slice none 0 0, .string ⟨#[]⟩, .string ⟨#[]⟩, .string ⟨#[]⟩, .slice none 0 0, .string ⟨#[]⟩, .string ⟨#[]⟩, .bool false], .agg #[.int .u64 0, .bool false, .slice none 0 0, .float .f64 0, .bool false, .bool false]]) #[.agg #[.int .i8 0, .slice none 0 0, .string ⟨#[]⟩, .string ⟨#[]⟩, .string ⟨#[]⟩, .slice none 0 0, .string ⟨#[]⟩, .string ⟨#[]⟩, .bool false], .agg #[.int .u64 0, .bool false, .slice none 0 0, .float .f64 0, .bool false, .bool false]] :=
  OpenSpec.preRow_of_cond 8 (costNil_reads os enc) (by kernel_rfl) (fun k hk => by cases hk) (by kernel_rfl) (costNil_w5 os)

theorem costNil_wit (os : Os) {H : Type} (enc : TypeId × Value → H) : ∃ (w : World) (tape : Tape) (i : Input), w.os = os ∧ (w.forCall tape i).Shaped Tryz.checked.prog ∧ i.vars = [] ∧ Input.okWide Tryz.checked.prog (w.forCall tape i) .any w.heap.size 3 i ∧
      (OpenSpec.ofChange Rows.costNilSpec).preRow enc Tryz.checked.prog Tryz.f3 Rows.costNilRow.domain false Rows.costNilRow.laid (w.forCall tape i).memory i.args ∧ ({ } : Assume).holds Tryz.checked.prog (lone (Frame.enter Tryz.checked.prog 3 i.args .normal) [] (w.forCall tape i)) :=
  witness_row_atRef (enc := enc) (C := Tryz.checked) false (laidWorld0 os) #[.agg #[.int .i8 0, .slice none 0 0, .string ⟨#[]⟩, .string ⟨#[]⟩, .string ⟨#[]⟩, .slice none 0 0, .string ⟨#[]⟩, .string ⟨#[]⟩, .bool false], .agg #[.int .u64 0, .bool false, .slice none 0 0, .float .f64 0, .bool false, .bool false]] (costNil_w6 os) (costNil_w1 os) (costNil_w2 os) (costNil_w3 os) (costNil_row os enc)

theorem costNil_contr (os : Os) (started : os.Started) (H : Type) (enc : TypeId × Value → H) (F : Stop.Interp) (hw : ∃ (w : World) (tape : Tape) (i : Input), w.os = os ∧ (w.forCall tape i).Shaped Tryz.checked.prog ∧ i.vars = [] ∧ Input.okWide Tryz.checked.prog (w.forCall tape i) .any w.heap.size 3 i ∧
      (OpenSpec.ofChange Rows.costNilSpec).preRow enc Tryz.checked.prog Tryz.f3 Rows.costNilRow.domain false Rows.costNilRow.laid (w.forCall tape i).memory i.args ∧ ({ } : Assume).holds Tryz.checked.prog (lone (Frame.enter Tryz.checked.prog 3 i.args .normal) [] (w.forCall tape i))) :
    ReturnsInHanded {} Tryz.checked os 3 .any ((OpenSpec.ofChange Rows.costNilSpec).preRow enc Tryz.prog Tryz.f3 Rows.costNilRow.domain false Rows.costNilRow.laid) (((OpenSpec.ofChange Rows.costNilSpec).at F).post enc Tryz.prog Tryz.f3 false true false false) := by
  refine returnsInHanded_of_row (C := Tryz.checked) (s := OpenSpec.ofChange Rows.costNilSpec) own started (by kernel_rfl) Tryz.func3 hw ?_
  intro W base args ds gs before hval hW _ _ hsz hL hsh _
  have hok : Go.Ex.ArgsOk Tryz.checked.prog W base Tryz.f3.params args := ⟨@hval⟩
  exact costNil_contract H enc W base args ds gs before hok hW hsz hL hsh

theorem costNil_lifted (os : Os) (started : os.Started) (H : Type) (enc : TypeId × Value → H) (F : Stop.Interp) :
    ReturnsInHanded {} Tryz.checked os 3 .any ((OpenSpec.ofChange Rows.costNilSpec).preRow enc Tryz.prog Tryz.f3 Rows.costNilRow.domain false Rows.costNilRow.laid) (((OpenSpec.ofChange Rows.costNilSpec).at F).post enc Tryz.prog Tryz.f3 false true false false) :=
  costNil_contr os started H enc F (costNil_wit os enc)

theorem costNil_said : Rows.CostNilSaid :=
  OpenClaim.holds_of_cond 3 Tryz.f3 rfl rfl rfl rfl rfl rfl rfl ⟨rfl, rfl, rfl, rfl, rfl⟩ rfl rfl rfl rfl rfl (by kernel_rfl) Tryz.func3 costNil_facts costNil_inst costNil_wrap
    (fun os started H enc _ F => by rw [OpenClaim.pre_eq_preRow]; exact costNil_lifted os started H enc F)

theorem costNil_noStand : (Tryz.f3.params.toList.all fun t => !(Tryz.pinned.checked.prog.wantsStandIn t)) = true := by kernel_rfl
theorem costNil_plain (f : FuncId) (fn : Func) (hf : Tryz.pinned.checked.prog.funcNamed "roster/rosterlaw17.CostNil" = some f) (hfn : Tryz.pinned.checked.prog.funcs[f]? = some fn) :
    true = Tryz.pinned.checked.prog.looks [] ∧ ∀ (j : Nat) t, fn.params[j]? = some t → Tryz.pinned.checked.prog.wantsStandIn t = false := by
  obtain rfl : f = 3 := Option.some.inj (costNil_named.symm.trans hf) |>.symm
  obtain rfl : fn = Tryz.f3 := (Option.some.inj (Tryz.func3.symm.trans hfn)).symm
  refine ⟨costNil_looks, fun j t ht => ?_⟩
  have h := costNil_noStand
  rw [List.all_eq_true] at h
  simpa using h t (List.mem_of_getElem? (by simpa using ht))

/-- THE CARD. -/
theorem costNil : Rows.CostNilCardSaid :=
  Claim7.holds_tied_plain_at .later [] _ _ _ _ costNil_said (fun _ h => by cases h) costNil_wfT (fun _ h => by cases h) costNil_row_tie rfl ⟨rfl, rfl⟩ costNil_main rfl costNil_plain costNil_goes
end Go.Proofs.YtjclahnbohdcpaaGreatDoor
