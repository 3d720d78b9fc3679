/-
  roster/rosterlaw08.EntrySame answers true: the card, tied to the program's text. What it calls is walked; its closed call is run by the abstract machine. Conditions: the listed package-level variables hold what the program's text lays.
-/
import Derived.Test.YtiiadibbkijnhaaGreatDoorCards
import Derived.Test.YtiiadibbkijnhaaGreatDoorExArgs
import Derived.Test.YtiiadibbkijnhaaGreatDoorTie
import Derived.Test.YtiiadibbkijnhaaGreatDoorEntrySameWit
import Derived.Test.YtiiadibbkijnhaaGreatDoorWalkEntrySame
import Derived.Test.YtiiadibbkijnhaaGreatDoorEntIn
import Derived.Test.YtiiadibbkijnhaaGreatDoorEntrySameF5
namespace Go.Proofs.YtiiadibbkijnhaaGreatDoor
open Go.ChangeShapes Go.WideShapes Go.ChangeAt Go.RowKit Go.RankLaw Go.FltLaw Go.EntLaw

theorem entrySame_laidOut : laidOutB Tryz.prog = true := by kernel_rfl
theorem entrySame_readable : (Tryz.f5.params.toList.all fun t => Tryz.prog.readableRec t && decide (t < Tryz.prog.types.size)) = true := by kernel_rfl
theorem entrySame_contract (H : Type) (enc : TypeId × Value → H) (W : World) (base : Nat) (args : Array Value) (ds gs : List (DataW H)) (before : List MemPlace)
    (hval : Go.Ex.ArgsOk Tryz.checked.prog W base Tryz.f5.params args)
    (hW : DataW.Whole enc Tryz.prog Tryz.f5.params.toList Rows.entrySameSpec.vars false W args.toList ds gs before)
    (hsz : (DataW.weightsEach Tryz.prog (Tryz.f5.params.toList ++ (OpenSpec.ofChange Rows.entrySameSpec).bare.plain.varTypes Tryz.prog) (ds ++ gs)).all (· ≤ reachBytes) = true)
    (hL : laidMetH Tryz.prog Rows.entrySameRow.laid W) (hsh : W.ShapedOpen Tryz.prog) :
    Calls Tryz.prog 5 args W fun e W' => ∃ v, e = .returned v ∧ Rows.entrySameSpec.post enc Tryz.prog Tryz.f5 false true false false W args v W' := by
  have hv := vars_ok0 (laid := Rows.entrySameRow.laid) entrySame_w4 (by kernel_rfl) (by kernel_rfl) (by kernel_rfl) hL
  have hW' := hW
  obtain ⟨p, q, hA0, hV, rfl, hfz, hnd⟩ := hW
  have hA : DataW.TrodAll enc Tryz.prog W 0 (fun _ => true) true Tryz.f5.params.toList args.toList ds p := hA0
  rw [Tryz.params5] at hA hsz
  obtain ⟨v0, vs1, d0, ds1, a0, b0, e0, rfl, rfl, h0, hA1⟩ := trodAll_cons hA
  obtain ⟨v1, vs2, d1, ds2, a1, b1, rfl, rfl, rfl, h1, hA2⟩ := trodAll_cons hA1
  obtain ⟨rfl, rfl, rfl⟩ := trodAll_nil hA2
  have e1 : args = #[v0, v1] := by rw [← Array.toArray_toList (xs := args), e0]
  subst e1
  rw [List.all_eq_true] at hsz
  have k0 : OkV Tryz.checked.prog W base 24 v0 := okV_at (j := 0) hval (by rw [Tryz.params5]; rfl) rfl
  have hw0 : ∀ x ∈ d0.weights Tryz.prog 24, x ≤ reachBytes := fun x hx => by
    have := hsz x (by
      simp only [List.cons_append, List.nil_append, DataW.weightsEach, List.mem_append]
      exact .inl hx)
    simpa using this
  obtain ⟨l0, A0, c0, rfl, q0⟩ := ent_arg Tryz.underlying24 (by kernel_rfl) (by kernel_rfl) Tryz.underlying22 Tryz.underlying48 (by kernel_rfl) (by kernel_rfl) (by kernel_rfl) Tryz.underlying9 Tryz.underlying46 Tryz.underlying9 (by kernel_rfl) (by kernel_rfl) k0 h0 hw0
  have k1 : OkV Tryz.checked.prog W base 24 v1 := okV_at (j := 1) hval (by rw [Tryz.params5]; rfl) rfl
  have hw1 : ∀ x ∈ d1.weights Tryz.prog 24, x ≤ reachBytes := fun x hx => by
    have := hsz x (by
      simp only [List.cons_append, List.nil_append, DataW.weightsEach, List.mem_append]
      exact .inr (.inl hx))
    simpa using this
  obtain ⟨l1, A1, c1, rfl, q1⟩ := ent_arg Tryz.underlying24 (by kernel_rfl) (by kernel_rfl) Tryz.underlying22 Tryz.underlying48 (by kernel_rfl) (by kernel_rfl) (by kernel_rfl) Tryz.underlying9 Tryz.underlying46 Tryz.underlying9 (by kernel_rfl) (by kernel_rfl) k1 h1 hw1
  refine (entrySame_walk W l0 A0 c0 q0 l1 A1 c1 q1 hsh (size_of hsh) hv).mono fun e W' ⟨he, hb⟩ => ?_
  subst he
  refine ⟨_, rfl, Go.Ex.post_true (b := 4) entrySame_laidOut entrySame_readable rfl (by kernel_rfl) Tryz.underlying4 (fun ds hl => ?_) hW' hb⟩
  rw [Tryz.params5] at hl
  match ds, hl with
  | [d0, d1], _ => rfl

theorem entrySame_row (os : Os) {H : Type} (enc : TypeId × Value → H) : (OpenSpec.ofChange Rows.entrySameSpec).preRow enc Tryz.prog Tryz.f5 Rows.entrySameRow.domain false Rows.entrySameRow.laid (wOf os #[.agg #[.slice none 0 0], .agg #[.slice none 0 0]]) #[.agg #[.slice none 0 0], .agg #[.slice none 0 0]] :=
  OpenSpec.preRow_of_cond 8 (entrySame_reads os enc) (by kernel_rfl) (fun k hk => by cases hk) (by kernel_rfl) (entrySame_w5 os)

theorem entrySame_wit (os : Os) {H : Type} (enc : TypeId × Value → H) : ∃ (w : World) (tape : Tape) (i : Input), w.os = os ∧ (w.forCall tape i).Shaped Tryz.checked.prog ∧ i.vars = [] ∧ Input.okWide Tryz.checked.prog (w.forCall tape i) .any w.heap.size 5 i ∧
      (OpenSpec.ofChange Rows.entrySameSpec).preRow enc Tryz.checked.prog Tryz.f5 Rows.entrySameRow.domain false Rows.entrySameRow.laid (w.forCall tape i).memory i.args ∧ ({ } : Assume).holds Tryz.checked.prog (lone (Frame.enter Tryz.checked.prog 5 i.args .normal) [] (w.forCall tape i)) :=
  witness_row_atRef (enc := enc) (C := Tryz.checked) false (laidWorld os) #[.agg #[.slice none 0 0], .agg #[.slice none 0 0]] (entrySame_w6 os) (entrySame_w1 os) (entrySame_w2 os) (entrySame_w3 os) (entrySame_row os enc)

theorem entrySame_contr (os : Os) (started : os.Started) (H : Type) (enc : TypeId × Value → H) (F : Stop.Interp) (hw : ∃ (w : World) (tape : Tape) (i : Input), w.os = os ∧ (w.forCall tape i).Shaped Tryz.checked.prog ∧ i.vars = [] ∧ Input.okWide Tryz.checked.prog (w.forCall tape i) .any w.heap.size 5 i ∧
      (OpenSpec.ofChange Rows.entrySameSpec).preRow enc Tryz.checked.prog Tryz.f5 Rows.entrySameRow.domain false Rows.entrySameRow.laid (w.forCall tape i).memory i.args ∧ ({ } : Assume).holds Tryz.checked.prog (lone (Frame.enter Tryz.checked.prog 5 i.args .normal) [] (w.forCall tape i))) :
    ReturnsInHanded {} Tryz.checked os 5 .any ((OpenSpec.ofChange Rows.entrySameSpec).preRow enc Tryz.prog Tryz.f5 Rows.entrySameRow.domain false Rows.entrySameRow.laid) (((OpenSpec.ofChange Rows.entrySameSpec).at F).post enc Tryz.prog Tryz.f5 false true false false) := by
  refine returnsInHanded_of_row (C := Tryz.checked) (s := OpenSpec.ofChange Rows.entrySameSpec) own started (by kernel_rfl) Tryz.func5 hw ?_
  intro W base args ds gs before hval hW _ _ hsz hL hsh _
  have hok : Go.Ex.ArgsOk Tryz.checked.prog W base Tryz.f5.params args := ⟨@hval⟩
  exact entrySame_contract H enc W base args ds gs before hok hW hsz hL hsh

theorem entrySame_lifted (os : Os) (started : os.Started) (H : Type) (enc : TypeId × Value → H) (F : Stop.Interp) :
    ReturnsInHanded {} Tryz.checked os 5 .any ((OpenSpec.ofChange Rows.entrySameSpec).preRow enc Tryz.prog Tryz.f5 Rows.entrySameRow.domain false Rows.entrySameRow.laid) (((OpenSpec.ofChange Rows.entrySameSpec).at F).post enc Tryz.prog Tryz.f5 false true false false) :=
  entrySame_contr os started H enc F (entrySame_wit os enc)

theorem entrySame_said : Rows.EntrySameSaid :=
  OpenClaim.holds_of_cond 5 Tryz.f5 rfl rfl rfl rfl rfl rfl rfl ⟨rfl, rfl, rfl, rfl, rfl⟩ rfl rfl rfl rfl rfl (by kernel_rfl) Tryz.func5 entrySame_facts entrySame_inst entrySame_wrap
    (fun os started H enc _ F => by rw [OpenClaim.pre_eq_preRow]; exact entrySame_lifted os started H enc F)

theorem entrySame_noStand : (Tryz.f5.params.toList.all fun t => !(Tryz.pinned.checked.prog.wantsStandIn t)) = true := by kernel_rfl
theorem entrySame_plain (f : FuncId) (fn : Func) (hf : Tryz.pinned.checked.prog.funcNamed "roster/rosterlaw08.EntrySame" = some f) (hfn : Tryz.pinned.checked.prog.funcs[f]? = some fn) :
    true = Tryz.pinned.checked.prog.looks [] ∧ ∀ (j : Nat) t, fn.params[j]? = some t → Tryz.pinned.checked.prog.wantsStandIn t = false := by
  obtain rfl : f = 5 := Option.some.inj (entrySame_named.symm.trans hf) |>.symm
  obtain rfl : fn = Tryz.f5 := (Option.some.inj (Tryz.func5.symm.trans hfn)).symm
  refine ⟨entrySame_looks, fun j t ht => ?_⟩
  have h := entrySame_noStand
  rw [List.all_eq_true] at h
  simpa using h t (List.mem_of_getElem? (by simpa using ht))

/-- THE CARD. -/
theorem entrySame : Rows.EntrySameCardSaid :=
  Claim7.holds_tied_plain_at .later [] _ _ _ _ entrySame_said (fun _ h => by cases h) entrySame_wfT (fun _ h => by cases h) entrySame_row_tie rfl ⟨rfl, rfl⟩ entrySame_main rfl entrySame_plain entrySame_goes
end Go.Proofs.YtiiadibbkijnhaaGreatDoor
