/-
  roster/rosterlaw22.RankPages answers true: the card, tied to the program's text. What it calls is walked; its closed call is run by the abstract machine. Conditions: the listed package-level variables hold what the program's text lays.
-/
import Derived.Test.YtkidamemnogojabGreatDoorCards
import Derived.Test.YtkidamemnogojabGreatDoorExArgs
import Derived.Test.YtkidamemnogojabGreatDoorTie
import Derived.Test.YtkidamemnogojabGreatDoorRankPagesWit
import Derived.Test.YtkidamemnogojabGreatDoorRankP1
import Derived.Test.YtkidamemnogojabGreatDoorRankIn
import Derived.Test.YtkidamemnogojabGreatDoorRankVars
import Derived.Test.YtkidamemnogojabGreatDoorRankPagesF5
namespace Go.Proofs.YtkidamemnogojabGreatDoor
open Go.ChangeShapes Go.WideShapes Go.ChangeAt Go.RowKit Go.RankLaw

theorem rankPages_laidOut : laidOutB Tryz.prog = true := by kernel_rfl
theorem rankPages_readable : (Tryz.f3.params.toList.all fun t => Tryz.prog.readableRec t && decide (t < Tryz.prog.types.size)) = true := by kernel_rfl
theorem rankPages_vars {W : World} (h : laidMetH Tryz.prog Rows.rankPagesRow.laid W) : Vars W := by
  unfold laidMetH at h
  rw [rankPages_w4] at h
  exact vars_of_laid h
theorem rankPages_contract (H : Type) (enc : TypeId × Value → H) (W : World) (base : Nat) (args : Array Value) (ds gs : List (DataW H)) (before : List MemPlace)
    (hval : Go.Ex.ArgsOk Tryz.checked.prog W base Tryz.f3.params args)
    (hW : DataW.Whole enc Tryz.prog Tryz.f3.params.toList Rows.rankPagesSpec.vars false W args.toList ds gs before)
    (hsz : (DataW.weightsEach Tryz.prog (Tryz.f3.params.toList ++ (OpenSpec.ofChange Rows.rankPagesSpec).bare.plain.varTypes Tryz.prog) (ds ++ gs)).all (· ≤ reachBytes) = true)
    (hL : laidMetH Tryz.prog Rows.rankPagesRow.laid W) (hG : 10 ≤ W.heap.size) :
    Calls Tryz.prog 3 args W fun e W' => ∃ v, e = .returned v ∧ Rows.rankPagesSpec.post enc Tryz.prog Tryz.f3 false true false false W args v W' := by
  have hv := vars_ok0 (laid := Rows.rankPagesRow.laid) rankPages_w4 (by kernel_rfl) (by kernel_rfl) hL
  have hW' := hW
  obtain ⟨p, q, hA0, hV, rfl, hfz, hnd⟩ := hW
  have hA : DataW.TrodAll enc Tryz.prog W 0 (fun _ => true) true Tryz.f3.params.toList args.toList ds p := hA0
  rw [Tryz.params3] at hA hsz
  obtain ⟨v0, vs1, d0, ds1, a0, b0, e0, rfl, rfl, h0, hA1⟩ := trodAll_cons hA
  obtain ⟨v1, vs2, d1, ds2, a1, b1, rfl, rfl, rfl, h1, hA2⟩ := trodAll_cons hA1
  obtain ⟨v2, vs3, d2, ds3, a2, b2, rfl, rfl, rfl, h2, hA3⟩ := trodAll_cons hA2
  obtain ⟨rfl, rfl, rfl⟩ := trodAll_nil hA3
  have e1 : args = #[v0, v1, v2] := by rw [← Array.toArray_toList (xs := args), e0]
  subst e1
  have k0 : OkV Tryz.checked.prog W base 22 v0 := okV_at (j := 0) hval (by rw [Tryz.params3]; rfl) rfl
  have k1 : OkV Tryz.checked.prog W base 9 v1 := okV_at (j := 1) hval (by rw [Tryz.params3]; rfl) rfl
  have k2 : OkV Tryz.checked.prog W base 3 v2 := okV_at (j := 2) hval (by rw [Tryz.params3]; rfl) rfl
  rw [List.all_eq_true] at hsz
  have hw : ∀ x, x ∈ d0.weights Tryz.prog 22 ∨ x ∈ d1.weights Tryz.prog 9 → x ≤ reachBytes := fun x hx => by
    have := hsz x (by
      simp only [List.cons_append, List.nil_append, DataW.weightsEach, List.mem_append]
      rcases hx with hx | hx
      · exact .inl hx
      · exact .inr (.inl hx))
    simpa using this
  obtain ⟨A, len, c, xs, rfl, g1, g2, g3, g4, g5, g6⟩ := ints_in Tryz.underlying22 Tryz.underlying26 (by kernel_rfl) (by kernel_rfl) k0 h0 fun x hx => hw x (.inl hx)
  obtain ⟨l, rfl, g7⟩ := string_in Tryz.underlying9 k1 h1 fun x hx => hw x (.inr hx)
  obtain ⟨n, rfl, g8, g9⟩ := int_in Tryz.underlying3 k2 h2
  refine (rankPages_walk A len c xs l n W g1 g2 g3 g4 g5 g7 g8 g9 (rankPages_vars hL) hG hv).mono fun e W' ⟨he, hb⟩ => ?_
  subst he
  refine ⟨_, rfl, Go.Ex.post_true (b := 4) rankPages_laidOut rankPages_readable rfl (by kernel_rfl) Tryz.underlying4 (fun ds hl => ?_) hW' hb⟩
  rw [Tryz.params3] at hl
  match ds, hl with
  | [d0, d1, d2], _ => rfl

theorem rankPages_row (os : Os) {H : Type} (enc : TypeId × Value → H) : (OpenSpec.ofChange Rows.rankPagesSpec).preRow enc Tryz.prog Tryz.f3 Rows.rankPagesRow.domain false Rows.rankPagesRow.laid (wOf os #[.slice none 0 0, .string ⟨#[]⟩, .int .i64 0]) #[.slice none 0 0, .string ⟨#[]⟩, .int .i64 0] :=
  OpenSpec.preRow_of_cond 8 (rankPages_reads os enc) (by kernel_rfl) (fun k hk => by cases hk) (by kernel_rfl) (rankPages_w5 os)

theorem rankPages_wit (os : Os) {H : Type} (enc : TypeId × Value → H) : ∃ (w : World) (tape : Tape) (i : Input), w.os = os ∧ (w.forCall tape i).Shaped Tryz.checked.prog ∧ i.vars = [] ∧ Input.okWide Tryz.checked.prog (w.forCall tape i) .any w.heap.size 3 i ∧
      (OpenSpec.ofChange Rows.rankPagesSpec).preRow enc Tryz.checked.prog Tryz.f3 Rows.rankPagesRow.domain false Rows.rankPagesRow.laid (w.forCall tape i).memory i.args ∧ ({ } : Assume).holds Tryz.checked.prog (lone (Frame.enter Tryz.checked.prog 3 i.args .normal) [] (w.forCall tape i)) :=
  witness_row_atRef (enc := enc) (C := Tryz.checked) false (laidWorld os) #[.slice none 0 0, .string ⟨#[]⟩, .int .i64 0] (rankPages_w6 os) (rankPages_w1 os) (rankPages_w2 os) (rankPages_w3 os) (rankPages_row os enc)

theorem rankPages_contr (os : Os) (started : os.Started) (H : Type) (enc : TypeId × Value → H) (F : Stop.Interp) (hw : ∃ (w : World) (tape : Tape) (i : Input), w.os = os ∧ (w.forCall tape i).Shaped Tryz.checked.prog ∧ i.vars = [] ∧ Input.okWide Tryz.checked.prog (w.forCall tape i) .any w.heap.size 3 i ∧
      (OpenSpec.ofChange Rows.rankPagesSpec).preRow enc Tryz.checked.prog Tryz.f3 Rows.rankPagesRow.domain false Rows.rankPagesRow.laid (w.forCall tape i).memory i.args ∧ ({ } : Assume).holds Tryz.checked.prog (lone (Frame.enter Tryz.checked.prog 3 i.args .normal) [] (w.forCall tape i))) :
    ReturnsInHanded {} Tryz.checked os 3 .any ((OpenSpec.ofChange Rows.rankPagesSpec).preRow enc Tryz.prog Tryz.f3 Rows.rankPagesRow.domain false Rows.rankPagesRow.laid) (((OpenSpec.ofChange Rows.rankPagesSpec).at F).post enc Tryz.prog Tryz.f3 false true false false) := by
  refine returnsInHanded_of_row (C := Tryz.checked) (s := OpenSpec.ofChange Rows.rankPagesSpec) own started (by kernel_rfl) Tryz.func3 hw ?_
  intro W base args ds gs before hval hW _ _ hsz hL hsh _
  have hG : 10 ≤ W.heap.size := size_of hsh
  have hok : Go.Ex.ArgsOk Tryz.checked.prog W base Tryz.f3.params args := ⟨@hval⟩
  exact rankPages_contract H enc W base args ds gs before hok hW hsz hL hG

theorem rankPages_lifted (os : Os) (started : os.Started) (H : Type) (enc : TypeId × Value → H) (F : Stop.Interp) :
    ReturnsInHanded {} Tryz.checked os 3 .any ((OpenSpec.ofChange Rows.rankPagesSpec).preRow enc Tryz.prog Tryz.f3 Rows.rankPagesRow.domain false Rows.rankPagesRow.laid) (((OpenSpec.ofChange Rows.rankPagesSpec).at F).post enc Tryz.prog Tryz.f3 false true false false) :=
  rankPages_contr os started H enc F (rankPages_wit os enc)

theorem rankPages_said : Rows.RankPagesSaid :=
  OpenClaim.holds_of_cond 3 Tryz.f3 rfl rfl rfl rfl rfl rfl rfl ⟨rfl, rfl, rfl, rfl, rfl⟩ rfl rfl rfl rfl rfl (by kernel_rfl) Tryz.func3 rankPages_facts rankPages_inst rankPages_wrap
    (fun os started H enc _ F => by rw [OpenClaim.pre_eq_preRow]; exact rankPages_lifted os started H enc F)

theorem rankPages_noStand : (Tryz.f3.params.toList.all fun t => !(Tryz.pinned.checked.prog.wantsStandIn t)) = true := by kernel_rfl
theorem rankPages_plain (f : FuncId) (fn : Func) (hf : Tryz.pinned.checked.prog.funcNamed "roster/rosterlaw22.RankPages" = some f) (hfn : Tryz.pinned.checked.prog.funcs[f]? = some fn) :
    true = Tryz.pinned.checked.prog.looks [] ∧ ∀ (j : Nat) t, fn.params[j]? = some t → Tryz.pinned.checked.prog.wantsStandIn t = false := by
  obtain rfl : f = 3 := Option.some.inj (rankPages_named.symm.trans hf) |>.symm
  obtain rfl : fn = Tryz.f3 := (Option.some.inj (Tryz.func3.symm.trans hfn)).symm
  refine ⟨rankPages_looks, fun j t ht => ?_⟩
  have h := rankPages_noStand
  rw [List.all_eq_true] at h
  simpa using h t (List.mem_of_getElem? (by simpa using ht))

/-- THE CARD. -/
theorem rankPages : Rows.RankPagesCardSaid :=
  Claim7.holds_tied_plain_at .later [] _ _ _ _ rankPages_said (fun _ h => by cases h) rankPages_wfT (fun _ h => by cases h) rankPages_row_tie rfl ⟨rfl, rfl⟩ rankPages_main rfl rankPages_plain rankPages_goes
end Go.Proofs.YtkidamemnogojabGreatDoor
