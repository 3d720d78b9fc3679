/-
  roster/rosterlaw08.EntryNil answers true: the card, tied to the program's text. What it calls is walked; its closed call is run by the abstract machine. Conditions: the listed package-level variables hold what the program's text lays.
-/
import Derived.Test.YtiiadibbkijnhaaGreatDoorCards
import Derived.Test.YtiiadibbkijnhaaGreatDoorExArgs
import Derived.Test.YtiiadibbkijnhaaGreatDoorTie
import Derived.Test.YtiiadibbkijnhaaGreatDoorEntryNilWit
import Derived.Test.YtiiadibbkijnhaaGreatDoorWalkEntryNil
import Derived.Test.YtiiadibbkijnhaaGreatDoorEntIn
import Derived.Test.YtiiadibbkijnhaaGreatDoorEntryNilF5
namespace Go.Proofs.YtiiadibbkijnhaaGreatDoor
open Go.ChangeShapes Go.WideShapes Go.ChangeAt Go.RowKit Go.RankLaw Go.FltLaw Go.EntLaw

theorem entryNil_laidOut : laidOutB Tryz.prog = true := by kernel_rfl
theorem entryNil_readable : (Tryz.f3.params.toList.all fun t => Tryz.prog.readableRec t && decide (t < Tryz.prog.types.size)) = true := by kernel_rfl
theorem entryNil_contract (H : Type) (enc : TypeId × Value → H) (W : World) (base : Nat) (args : Array Value) (ds gs : List (DataW H)) (before : List MemPlace)
    (hval : Go.Ex.ArgsOk Tryz.checked.prog W base Tryz.f3.params args)
    (hW : DataW.Whole enc Tryz.prog Tryz.f3.params.toList Rows.entryNilSpec.vars false W args.toList ds gs before)
    (hsz : (DataW.weightsEach Tryz.prog (Tryz.f3.params.toList ++ (OpenSpec.ofChange Rows.entryNilSpec).bare.plain.varTypes Tryz.prog) (ds ++ gs)).all (· ≤ reachBytes) = true)
    (hL : laidMetH Tryz.prog Rows.entryNilRow.laid W) (hsh : W.ShapedOpen Tryz.prog) :
    Calls Tryz.prog 3 args W fun e W' => ∃ v, e = .returned v ∧ Rows.entryNilSpec.post enc Tryz.prog Tryz.f3 false true false false W args v W' := by
  have hv := vars_ok0 (laid := Rows.entryNilRow.laid) entryNil_w4 (by kernel_rfl) (by kernel_rfl) (by kernel_rfl) hL
  have hW' := hW
  obtain ⟨p, q, hA0, hV, rfl, hfz, hnd⟩ := hW
  have hA : DataW.TrodAll enc Tryz.prog W 0 (fun _ => true) true Tryz.f3.params.toList args.toList ds p := hA0
  rw [Tryz.params3] at hA hsz
  obtain ⟨v0, vs1, d0, ds1, a0, b0, e0, rfl, rfl, h0, hA1⟩ := trodAll_cons hA
  obtain ⟨v1, vs2, d1, ds2, a1, b1, rfl, rfl, rfl, h1, hA2⟩ := trodAll_cons hA1
  obtain ⟨v2, vs3, d2, ds3, a2, b2, rfl, rfl, rfl, h2, hA3⟩ := trodAll_cons hA2
  obtain ⟨rfl, rfl, rfl⟩ := trodAll_nil hA3
  have e1 : args = #[v0, v1, v2] := by rw [← Array.toArray_toList (xs := args), e0]
  subst e1
  rw [List.all_eq_true] at hsz
  have k0 : OkV Tryz.checked.prog W base 24 v0 := okV_at (j := 0) hval (by rw [Tryz.params3]; rfl) rfl
  have hw0 : ∀ x ∈ d0.weights Tryz.prog 24, x ≤ reachBytes := fun x hx => by
    have := hsz x (by
      simp only [List.cons_append, List.nil_append, DataW.weightsEach, List.mem_append]
      exact .inl hx)
    simpa using this
  obtain ⟨l0, A0, c0, rfl, q0⟩ := ent_arg Tryz.underlying24 (by kernel_rfl) (by kernel_rfl) Tryz.underlying22 Tryz.underlying48 (by kernel_rfl) (by kernel_rfl) (by kernel_rfl) Tryz.underlying9 Tryz.underlying46 Tryz.underlying9 (by kernel_rfl) (by kernel_rfl) k0 h0 hw0
  have k2 : OkV Tryz.checked.prog W base 9 v2 := okV_at (j := 2) hval (by rw [Tryz.params3]; rfl) rfl
  have hw2 : ∀ x ∈ d2.weights Tryz.prog 9, x ≤ reachBytes := fun x hx => by
    have := hsz x (by
      simp only [List.cons_append, List.nil_append, DataW.weightsEach, List.mem_append]
      exact .inr (.inr (.inl hx)))
    simpa using this
  obtain ⟨l2, rfl, u2⟩ := string_in Tryz.underlying9 k2 h2 hw2
  refine (entryNil_walk W l0 A0 c0 q0 v1 l2 u2 hsh (size_of hsh) hv).mono fun e W' ⟨he, hb⟩ => ?_
  subst he
  refine ⟨_, rfl, Go.Ex.post_true (b := 4) entryNil_laidOut entryNil_readable rfl (by kernel_rfl) Tryz.underlying4 (fun ds hl => ?_) hW' hb⟩
  rw [Tryz.params3] at hl
  match ds, hl with
  | [d0, d1, d2], _ => rfl

theorem entryNil_row (os : Os) {H : Type} (enc : TypeId × Value → H) : (OpenSpec.ofChange Rows.entryNilSpec).preRow enc Tryz.prog Tryz.f3 Rows.entryNilRow.domain false Rows.entryNilRow.laid (wOf os #[.agg #[.slice none 0 0], .slice none 0 0, .string ⟨#[]⟩]) #[.agg #[.slice none 0 0], .slice none 0 0, .string ⟨#[]⟩] :=
  OpenSpec.preRow_of_cond 8 (entryNil_reads os enc) (by kernel_rfl) (fun k hk => by cases hk) (by kernel_rfl) (entryNil_w5 os)

theorem entryNil_wit (os : Os) {H : Type} (enc : TypeId × Value → H) : ∃ (w : World) (tape : Tape) (i : Input), w.os = os ∧ (w.forCall tape i).Shaped Tryz.checked.prog ∧ i.vars = [] ∧ Input.okWide Tryz.checked.prog (w.forCall tape i) .any w.heap.size 3 i ∧
      (OpenSpec.ofChange Rows.entryNilSpec).preRow enc Tryz.checked.prog Tryz.f3 Rows.entryNilRow.domain false Rows.entryNilRow.laid (w.forCall tape i).memory i.args ∧ ({ } : Assume).holds Tryz.checked.prog (lone (Frame.enter Tryz.checked.prog 3 i.args .normal) [] (w.forCall tape i)) :=
  witness_row_atRef (enc := enc) (C := Tryz.checked) false (laidWorld os) #[.agg #[.slice none 0 0], .slice none 0 0, .string ⟨#[]⟩] (entryNil_w6 os) (entryNil_w1 os) (entryNil_w2 os) (entryNil_w3 os) (entryNil_row os enc)

theorem entryNil_contr (os : Os) (started : os.Started) (H : Type) (enc : TypeId × Value → H) (F : Stop.Interp) (hw : ∃ (w : World) (tape : Tape) (i : Input), w.os = os ∧ (w.forCall tape i).Shaped Tryz.checked.prog ∧ i.vars = [] ∧ Input.okWide Tryz.checked.prog (w.forCall tape i) .any w.heap.size 3 i ∧
      (OpenSpec.ofChange Rows.entryNilSpec).preRow enc Tryz.checked.prog Tryz.f3 Rows.entryNilRow.domain false Rows.entryNilRow.laid (w.forCall tape i).memory i.args ∧ ({ } : Assume).holds Tryz.checked.prog (lone (Frame.enter Tryz.checked.prog 3 i.args .normal) [] (w.forCall tape i))) :
    ReturnsInHanded {} Tryz.checked os 3 .any ((OpenSpec.ofChange Rows.entryNilSpec).preRow enc Tryz.prog Tryz.f3 Rows.entryNilRow.domain false Rows.entryNilRow.laid) (((OpenSpec.ofChange Rows.entryNilSpec).at F).post enc Tryz.prog Tryz.f3 false true false false) := by
  refine returnsInHanded_of_row (C := Tryz.checked) (s := OpenSpec.ofChange Rows.entryNilSpec) own started (by kernel_rfl) Tryz.func3 hw ?_
  intro W base args ds gs before hval hW _ _ hsz hL hsh _
  have hok : Go.Ex.ArgsOk Tryz.checked.prog W base Tryz.f3.params args := ⟨@hval⟩
  exact entryNil_contract H enc W base args ds gs before hok hW hsz hL hsh

theorem entryNil_lifted (os : Os) (started : os.Started) (H : Type) (enc : TypeId × Value → H) (F : Stop.Interp) :
    ReturnsInHanded {} Tryz.checked os 3 .any ((OpenSpec.ofChange Rows.entryNilSpec).preRow enc Tryz.prog Tryz.f3 Rows.entryNilRow.domain false Rows.entryNilRow.laid) (((OpenSpec.ofChange Rows.entryNilSpec).at F).post enc Tryz.prog Tryz.f3 false true false false) :=
  entryNil_contr os started H enc F (entryNil_wit os enc)

theorem entryNil_said : Rows.EntryNilSaid :=
  OpenClaim.holds_of_cond 3 Tryz.f3 rfl rfl rfl rfl rfl rfl rfl ⟨rfl, rfl, rfl, rfl, rfl⟩ rfl rfl rfl rfl rfl (by kernel_rfl) Tryz.func3 entryNil_facts entryNil_inst entryNil_wrap
    (fun os started H enc _ F => by rw [OpenClaim.pre_eq_preRow]; exact entryNil_lifted os started H enc F)

theorem entryNil_noStand : (Tryz.f3.params.toList.all fun t => !(Tryz.pinned.checked.prog.wantsStandIn t)) = true := by kernel_rfl
theorem entryNil_plain (f : FuncId) (fn : Func) (hf : Tryz.pinned.checked.prog.funcNamed "roster/rosterlaw08.EntryNil" = some f) (hfn : Tryz.pinned.checked.prog.funcs[f]? = some fn) :
    true = Tryz.pinned.checked.prog.looks [] ∧ ∀ (j : Nat) t, fn.params[j]? = some t → Tryz.pinned.checked.prog.wantsStandIn t = false := by
  obtain rfl : f = 3 := Option.some.inj (entryNil_named.symm.trans hf) |>.symm
  obtain rfl : fn = Tryz.f3 := (Option.some.inj (Tryz.func3.symm.trans hfn)).symm
  refine ⟨entryNil_looks, fun j t ht => ?_⟩
  have h := entryNil_noStand
  rw [List.all_eq_true] at h
  simpa using h t (List.mem_of_getElem? (by simpa using ht))

/-- THE CARD. -/
theorem entryNil : Rows.EntryNilCardSaid :=
  Claim7.holds_tied_plain_at .later [] _ _ _ _ entryNil_said (fun _ h => by cases h) entryNil_wfT (fun _ h => by cases h) entryNil_row_tie rfl ⟨rfl, rfl⟩ entryNil_main rfl entryNil_plain entryNil_goes
end Go.Proofs.YtiiadibbkijnhaaGreatDoor
