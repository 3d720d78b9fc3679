/-
  roster/rosterlaw22.RankWhole answers true: the card, tied to the program's text. What it calls is walked; its closed call is run by the abstract machine. Conditions: the listed package-level variables hold what the program's text lays.
-/
import Derived.Test.YtkidamemnogojabGreatDoorCards
import Derived.Test.YtkidamemnogojabGreatDoorExArgs
import Derived.Test.YtkidamemnogojabGreatDoorTie
import Derived.Test.YtkidamemnogojabGreatDoorRankWholeWit
import Derived.Test.YtkidamemnogojabGreatDoorRankP2
import Derived.Test.YtkidamemnogojabGreatDoorRankIn
import Derived.Test.YtkidamemnogojabGreatDoorRankVars
import Derived.Test.YtkidamemnogojabGreatDoorRankWholeF5
namespace Go.Proofs.YtkidamemnogojabGreatDoor
open Go.ChangeShapes Go.WideShapes Go.ChangeAt Go.RowKit Go.RankLaw

theorem rankWhole_laidOut : laidOutB Tryz.prog = true := by kernel_rfl
theorem rankWhole_readable : (Tryz.f4.params.toList.all fun t => Tryz.prog.readableRec t && decide (t < Tryz.prog.types.size)) = true := by kernel_rfl
theorem rankWhole_vars {W : World} (h : laidMetH Tryz.prog Rows.rankWholeRow.laid W) : Vars W := by
  unfold laidMetH at h
  rw [rankWhole_w4] at h
  exact vars_of_laid h
theorem rankWhole_contract (H : Type) (enc : TypeId × Value → H) (W : World) (base : Nat) (args : Array Value) (ds gs : List (DataW H)) (before : List MemPlace)
    (hval : Go.Ex.ArgsOk Tryz.checked.prog W base Tryz.f4.params args)
    (hW : DataW.Whole enc Tryz.prog Tryz.f4.params.toList Rows.rankWholeSpec.vars false W args.toList ds gs before)
    (hsz : (DataW.weightsEach Tryz.prog (Tryz.f4.params.toList ++ (OpenSpec.ofChange Rows.rankWholeSpec).bare.plain.varTypes Tryz.prog) (ds ++ gs)).all (· ≤ reachBytes) = true)
    (hL : laidMetH Tryz.prog Rows.rankWholeRow.laid W) (hG : 10 ≤ W.heap.size) :
    Calls Tryz.prog 4 args W fun e W' => ∃ v, e = .returned v ∧ Rows.rankWholeSpec.post enc Tryz.prog Tryz.f4 false true false false W args v W' := by
  have hv := vars_ok0 (laid := Rows.rankWholeRow.laid) rankWhole_w4 (by kernel_rfl) (by kernel_rfl) hL
  have hW' := hW
  obtain ⟨p, q, hA0, hV, rfl, hfz, hnd⟩ := hW
  have hA : DataW.TrodAll enc Tryz.prog W 0 (fun _ => true) true Tryz.f4.params.toList args.toList ds p := hA0
  rw [Tryz.params4] at hA hsz
  obtain ⟨v0, vs1, d0, ds1, a0, b0, e0, rfl, rfl, h0, hA1⟩ := trodAll_cons hA
  obtain ⟨v1, vs2, d1, ds2, a1, b1, rfl, rfl, rfl, h1, hA2⟩ := trodAll_cons hA1
  obtain ⟨rfl, rfl, rfl⟩ := trodAll_nil hA2
  have e1 : args = #[v0, v1] := by rw [← Array.toArray_toList (xs := args), e0]
  subst e1
  have k0 : OkV Tryz.checked.prog W base 22 v0 := okV_at (j := 0) hval (by rw [Tryz.params4]; rfl) rfl
  have k1 : OkV Tryz.checked.prog W base 30 v1 := okV_at (j := 1) hval (by rw [Tryz.params4]; rfl) rfl
  rw [List.all_eq_true] at hsz
  have hw : ∀ x, x ∈ d0.weights Tryz.prog 22 ∨ x ∈ d1.weights Tryz.prog 30 → x ≤ reachBytes := fun x hx => by
    have := hsz x (by
      simp only [List.cons_append, List.nil_append, DataW.weightsEach, List.mem_append]
      rcases hx with hx | hx
      · exact .inl hx
      · exact .inr (.inl hx))
    simpa using this
  obtain ⟨A, len, c, xs, rfl, g1, g2, g3, g4, g5, _⟩ := ints_in Tryz.underlying22 Tryz.underlying26 (by kernel_rfl) (by kernel_rfl) k0 h0 fun x hx => hw x (.inl hx)
  obtain ⟨A', nl, cl, zs, rfl, f1, f2, f3, f4, f5, f6⟩ := ints_in Tryz.underlying30 Tryz.underlying3 (by kernel_rfl) (by kernel_rfl) k1 h1 fun x hx => hw x (.inr hx)
  have hz : ∀ z ∈ zs, -9223372036854775808 ≤ z ∧ z ≤ 9223372036854775807 := fun z hz => by
    have := f6 z hz
    simp [Lit.wf, IntKind.min, IntKind.max, IntKind.signed, IntKind.bits] at this
    omega
  refine (rankWhole_walk A A' len c nl cl xs zs W g1 g2 g3 g4 f1 hz (by omega) g5 (rankWhole_vars hL) hG hv).mono fun e W' ⟨he, hb⟩ => ?_
  subst he
  refine ⟨_, rfl, Go.Ex.post_true (b := 4) rankWhole_laidOut rankWhole_readable rfl (by kernel_rfl) Tryz.underlying4 (fun ds hl => ?_) hW' hb⟩
  rw [Tryz.params4] at hl
  match ds, hl with
  | [d0, d1], _ => rfl

theorem rankWhole_row (os : Os) {H : Type} (enc : TypeId × Value → H) : (OpenSpec.ofChange Rows.rankWholeSpec).preRow enc Tryz.prog Tryz.f4 Rows.rankWholeRow.domain false Rows.rankWholeRow.laid (wOf os #[.slice none 0 0, .slice none 0 0]) #[.slice none 0 0, .slice none 0 0] :=
  OpenSpec.preRow_of_cond 8 (rankWhole_reads os enc) (by kernel_rfl) (fun k hk => by cases hk) (by kernel_rfl) (rankWhole_w5 os)

theorem rankWhole_wit (os : Os) {H : Type} (enc : TypeId × Value → H) : ∃ (w : World) (tape : Tape) (i : Input), w.os = os ∧ (w.forCall tape i).Shaped Tryz.checked.prog ∧ i.vars = [] ∧ Input.okWide Tryz.checked.prog (w.forCall tape i) .any w.heap.size 4 i ∧
      (OpenSpec.ofChange Rows.rankWholeSpec).preRow enc Tryz.checked.prog Tryz.f4 Rows.rankWholeRow.domain false Rows.rankWholeRow.laid (w.forCall tape i).memory i.args ∧ ({ } : Assume).holds Tryz.checked.prog (lone (Frame.enter Tryz.checked.prog 4 i.args .normal) [] (w.forCall tape i)) :=
  witness_row_atRef (enc := enc) (C := Tryz.checked) false (laidWorld os) #[.slice none 0 0, .slice none 0 0] (rankWhole_w6 os) (rankWhole_w1 os) (rankWhole_w2 os) (rankWhole_w3 os) (rankWhole_row os enc)

theorem rankWhole_contr (os : Os) (started : os.Started) (H : Type) (enc : TypeId × Value → H) (F : Stop.Interp) (hw : ∃ (w : World) (tape : Tape) (i : Input), w.os = os ∧ (w.forCall tape i).Shaped Tryz.checked.prog ∧ i.vars = [] ∧ Input.okWide Tryz.checked.prog (w.forCall tape i) .any w.heap.size 4 i ∧
      (OpenSpec.ofChange Rows.rankWholeSpec).preRow enc Tryz.checked.prog Tryz.f4 Rows.rankWholeRow.domain false Rows.rankWholeRow.laid (w.forCall tape i).memory i.args ∧ ({ } : Assume).holds Tryz.checked.prog (lone (Frame.enter Tryz.checked.prog 4 i.args .normal) [] (w.forCall tape i))) :
    ReturnsInHanded {} Tryz.checked os 4 .any ((OpenSpec.ofChange Rows.rankWholeSpec).preRow enc Tryz.prog Tryz.f4 Rows.rankWholeRow.domain false Rows.rankWholeRow.laid) (((OpenSpec.ofChange Rows.rankWholeSpec).at F).post enc Tryz.prog Tryz.f4 false true false false) := by
  refine returnsInHanded_of_row (C := Tryz.checked) (s := OpenSpec.ofChange Rows.rankWholeSpec) own started (by kernel_rfl) Tryz.func4 hw ?_
  intro W base args ds gs before hval hW _ _ hsz hL hsh _
  have hG : 10 ≤ W.heap.size := size_of hsh
  have hok : Go.Ex.ArgsOk Tryz.checked.prog W base Tryz.f4.params args := ⟨@hval⟩
  exact rankWhole_contract H enc W base args ds gs before hok hW hsz hL hG

theorem rankWhole_lifted (os : Os) (started : os.Started) (H : Type) (enc : TypeId × Value → H) (F : Stop.Interp) :
    ReturnsInHanded {} Tryz.checked os 4 .any ((OpenSpec.ofChange Rows.rankWholeSpec).preRow enc Tryz.prog Tryz.f4 Rows.rankWholeRow.domain false Rows.rankWholeRow.laid) (((OpenSpec.ofChange Rows.rankWholeSpec).at F).post enc Tryz.prog Tryz.f4 false true false false) :=
  rankWhole_contr os started H enc F (rankWhole_wit os enc)

theorem rankWhole_said : Rows.RankWholeSaid :=
  OpenClaim.holds_of_cond 4 Tryz.f4 rfl rfl rfl rfl rfl rfl rfl ⟨rfl, rfl, rfl, rfl, rfl⟩ rfl rfl rfl rfl rfl (by kernel_rfl) Tryz.func4 rankWhole_facts rankWhole_inst rankWhole_wrap
    (fun os started H enc _ F => by rw [OpenClaim.pre_eq_preRow]; exact rankWhole_lifted os started H enc F)

theorem rankWhole_noStand : (Tryz.f4.params.toList.all fun t => !(Tryz.pinned.checked.prog.wantsStandIn t)) = true := by kernel_rfl
theorem rankWhole_plain (f : FuncId) (fn : Func) (hf : Tryz.pinned.checked.prog.funcNamed "roster/rosterlaw22.RankWhole" = some f) (hfn : Tryz.pinned.checked.prog.funcs[f]? = some fn) :
    true = Tryz.pinned.checked.prog.looks [] ∧ ∀ (j : Nat) t, fn.params[j]? = some t → Tryz.pinned.checked.prog.wantsStandIn t = false := by
  obtain rfl : f = 4 := Option.some.inj (rankWhole_named.symm.trans hf) |>.symm
  obtain rfl : fn = Tryz.f4 := (Option.some.inj (Tryz.func4.symm.trans hfn)).symm
  refine ⟨rankWhole_looks, fun j t ht => ?_⟩
  have h := rankWhole_noStand
  rw [List.all_eq_true] at h
  simpa using h t (List.mem_of_getElem? (by simpa using ht))

/-- THE CARD. -/
theorem rankWhole : Rows.RankWholeCardSaid :=
  Claim7.holds_tied_plain_at .later [] _ _ _ _ rankWhole_said (fun _ h => by cases h) rankWhole_wfT (fun _ h => by cases h) rankWhole_row_tie rfl ⟨rfl, rfl⟩ rankWhole_main rfl rankWhole_plain rankWhole_goes
end Go.Proofs.YtkidamemnogojabGreatDoor
