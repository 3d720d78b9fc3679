/-
  The abstract machine: one step of it is steps of the model's, all of them.
-/
import Derived.Test.YtkidamemnogojaaGreatDoorExStep
set_option linter.unusedVariables false
set_option linter.unusedSimpArgs false
namespace Go.Ex

section
variable {P : Program} {b : Frame} {a : Act} {k : List Item} {cs : List Frame} {w : World}
theorem stepR_scope {c : Code} : step P (lone (b.atR a (.code (.scope c) :: k)) cs w) = .next (lone (b.atR a (.code c :: .inScope c :: k)) cs w) :=
  step_lone_go (by simp [stepG, stepG.exec, Frame.atR])
theorem stepR_inScope {c : Code} : step P (lone (b.atR a (.inScope c :: k)) cs w) = .next (lone (b.atR a k) cs w) :=
  step_lone_go (by simp [stepG, stepG.exec, Frame.atR])
end

section
variable {Κ : List Item} {P : Program} {B G : Nat} {σ τ : Sg} {s s1 : St} {rd : Option Nat} {fn : FuncId} {ro : Option Nat} {a : Act} {k : List Item} {cs cs0 : List Frame} {w w' : World} {m : Machine}

theorem run_getLoop {b : Nat} {L : Loop} (hh : w.heap[b]? = some (.loop L)) : (getObj b).run P w = .ok (.loop L) w := by simp [getObj, Sem.run, hh]

theorem rangeA_ok (hN : NoNum P) (h : RSt Κ B G σ s rd fn ro a k cs w) (hret : s.fr.ret = false) {g : Operand} {ps : Array Tmp} {asg body : Code} {t : List AI} {kt : List Item} (hk : k = .code (.rangeFunc g ps asg body) :: kt) (ht : RK Κ σ t kt) :
    OutOk Κ P B G σ s rd fn (lone ((bF s.fr.fn ro).atR a k) (cs ++ cs0) w) cs0 w (rangeA P s (ev G s.fr.tm g) ps asg body t) := by
  have hrd := h.fr.rd
  have hev := ev_ok h.rel h.fr.tm g
  subst hk
  unfold rangeA
  split
  · rename_i f first cap hq
    rw [hq] at hev
    obtain ⟨va, vb, hva, hvb, e⟩ := hev.inv_fn
    have hres : ∀ l w1, (resolve a.eval (rangeCall g l) 0).run P w1 = .ok { target := .fn (.func f) vb.toArray, args := va.toArray ++ #[.func (.yield l) #[] #[]] } w1 := by
      intro l w1
      simp only [resolve, List.map_toArray, List.map_cons, List.map_nil, e, Deferred.ofValue]
      rfl
    split
    · rename_i hn
      rw [hn] at hrd
      cases hrd
      split
      · rename_i fr' hfr
        intro hf
        have hf1 : σ s.nx = none := hf _ (Nat.le_refl _) (by show s.nx < s.nx + 2; omega)
        have hf2 : σ (s.nx + 1) = none := hf _ (by omega) (by show s.nx + 1 < s.nx + 2; omega)
        let w1 : World := { w with heap := w.heap.push (.deferred (some [])) }
        obtain ⟨g1, g2⟩ := h.rel.new (z := 0) (nx := s.nx) (b := .dfr) (o := .deferred (some [])) (w' := w1) h.big hf1 .dfr rfl rfl rfl rfl
        have hf2' : (σ.put s.nx (w.heap.size, 0)) (s.nx + 1) = none := by rw [Sg.put_other _ _ (by omega)]; exact hf2
        have hσ1 := Sg.put_same σ s.nx (w.heap.size, 0)
        generalize hσ' : σ.put s.nx (w.heap.size, 0) = σ' at g1 g2 hf2' hσ1
        have hsub2 : Sub σ' (σ'.put (s.nx + 1) (w1.heap.size, 0)) := Sub.put _ hf2'
        let L : Loop := { state := .ready, pending := none, fn := s.fr.fn, tmps := a.tmps, params := ps, assign := asg, body, defers := w.heap.size }
        obtain ⟨k1, k2⟩ := g1.new (z := 0) (nx := s.nx + 1) (b := .loop .ready none s.fr.fn s.fr.sz s.fr.tm ps.toList asg body s.nx) (o := .loop L) (w' := { w1 with heap := w1.heap.push (.loop L) }) (Nat.le_trans h.big g2.size) hf2'
          (.loop _ _ _ _ _ _ _ _ _ _ _ _ ((h.fr.tm.mono g2.sub).mono hsub2) (hsub2 _ _ hσ1)) rfl rfl rfl rfl
        have hσ2 := Sg.put_same σ' (s.nx + 1) (w1.heap.size, 0)
        have hsubA := g2.sub.trans k2.sub
        have hargs : RL (σ'.put (s.nx + 1) (w1.heap.size, 0)) (first ++ [.yl (s.nx + 1)] ++ cap) (va.toArray ++ #[Value.func (.yield w1.heap.size) #[] #[]] ++ vb.toArray).toList := by
          simp only [Array.toList_append]
          exact ((hva.mono hsubA).append (.cons (.yl _ _ _ hσ2) .nil)).append (hvb.mono hsubA)
        obtain ⟨fnn, cc, a', h1, h2, h3, h4, h5, h6, h7⟩ := enter_ok hfr hargs
        refine goes_push (s1 := s.turn _ _) (k1 := .inRangeFunc w1.heap.size :: kt) (a1 := { a with defers := { target := .collected w.heap.size, args := #[] } :: a.defers }) h rfl k1 (g2.trans k2)
          ⟨h.fr.tm.mono hsubA, .cons (k2.sub _ _ hσ1) (h.fr.df.mono hsubA), fun _ => .cons (.inRF _ _ _ hσ2) (ht.mono hsubA), by rw [hn]; exact .none⟩ hret rfl rfl h4 h5 ?_
        rw [← h3]
        refine .one (stepR_rangeFunc (w₁ := { w1 with heap := w1.heap.push (.loop L) }) (l := w1.heap.size) (mark := [{ target := .collected w.heap.size, args := #[] }]) ?_ (hres _ _) ?_)
        · simp [Instr.enterLoop, bF, w1, L]
          rfl
        · simp only [invoke]
          exact run_callFunc_enter hN h1 h2 _
      · trivial
    · rename_i id hid
      rw [hid] at hrd
      cases hrd with
      | some _ bb zz hs =>
        split
        · rename_i _ _ _ _ _ _ _ _ d hg
          split
          · rename_i fr' hfr
            intro hf
            have hf1 : σ s.nx = none := hf _ (Nat.le_refl _) (by show s.nx < s.nx + 1; omega)
            obtain ⟨kb, z', o, hs', hkb, hro, _⟩ := h.rel.blk id _ hg
            rw [hs] at hs'; simp at hs'; obtain ⟨rfl, rfl⟩ := hs'
            cases hro with
            | loop _ _ _ _ _ ps' _ _ _ dd zd tmps htt hd =>
              let L : Loop := { state := .ready, pending := none, fn := s.fr.fn, tmps := a.tmps, params := ps, assign := asg, body, defers := dd }
              have hsub : Sub σ (σ.put s.nx (w.heap.size, 0)) := Sub.put _ hf1
              obtain ⟨k1, k2⟩ := h.rel.new (z := 0) (nx := s.nx) (b := .loop .ready none s.fr.fn s.fr.sz s.fr.tm ps.toList asg body d) (o := .loop L) (w' := { w with heap := w.heap.push (.loop L) }) h.big hf1
                (.loop _ _ _ _ _ _ _ _ _ _ _ _ (h.fr.tm.mono hsub) (hsub _ _ hd)) rfl rfl rfl rfl
              have hσ2 := Sg.put_same σ s.nx (w.heap.size, 0)
              have hargs : RL (σ.put s.nx (w.heap.size, 0)) (first ++ [.yl s.nx] ++ cap) (va.toArray ++ #[Value.func (.yield w.heap.size) #[] #[]] ++ vb.toArray).toList := by
                simp only [Array.toList_append]
                exact ((hva.mono hsub).append (.cons (.yl _ _ _ hσ2) .nil)).append (hvb.mono hsub)
              obtain ⟨fnn, cc, a', h1, h2, h3, h4, h5, h6, h7⟩ := enter_ok hfr hargs
              refine goes_push (s1 := s.turn _ _) (k1 := .inRangeFunc w.heap.size :: kt) (a1 := a) h rfl k1 k2
                ⟨h.fr.tm.mono hsub, h.fr.df.mono hsub, fun _ => .cons (.inRF _ _ _ hσ2) (ht.mono hsub), h.fr.rd.mono hsub⟩ hret rfl rfl h4 h5 ?_
              rw [← h3]
              have hget := run_getLoop (P := P) hkb
              refine .one (stepR_rangeFunc (w₁ := { w with heap := w.heap.push (.loop L) }) (l := w.heap.size) (mark := []) ?_ (hres _ _) ?_)
              · simp [Instr.enterLoop, Instr.getLoop, bF, L, hget]
              · simp only [invoke]
                exact run_callFunc_enter hN h1 h2 _
          · trivial
        · trivial
  · trivial

theorem codeA_ok (hN : NoNum P) (h : RSt Κ B G σ s rd fn ro a k cs w) (hret : s.fr.ret = false) {c : Code} {t : List AI} {kt : List Item} (hk : k = .code c :: kt) (ht : RK Κ σ t kt) :
    OutOk Κ P B G σ s rd fn (lone ((bF s.fr.fn ro).atR a k) (cs ++ cs0) w) cs0 w (codeA P G s c t) := by
  have hb : (bF s.fr.fn ro).roundOf = ro := rfl
  have hkn : (bF s.fr.fn ro).kind = .normal := rfl
  cases c with
  | skip => subst hk; exact fun _ => goes_todo h hret (.one stepR_skip) ht
  | label l => subst hk; exact fun _ => goes_todo h hret (.one stepR_label) ht
  | seq x y => subst hk; exact fun _ => goes_todo h hret (.one stepR_seq) (.cons (.code _) (.cons (.code _) ht))
  | cond c x y =>
    subst hk
    have hev := ev_ok h.rel h.fr.tm c
    unfold codeA
    dsimp only
    split
    · rename_i hq
      rw [hq] at hev
      exact fun _ => goes_todo h hret (.one (stepR_cond hev.inv_bool)) (.cons (.code _) ht)
    · rename_i hq
      rw [hq] at hev
      exact fun _ => goes_todo h hret (.one (stepR_cond hev.inv_bool)) (.cons (.code _) ht)
    · trivial
  | block id c => subst hk; exact fun _ => goes_todo h hret (.one stepR_block) (.cons (.code _) (.cons (.inBlock _) ht))
  | loop c => subst hk; exact fun _ => goes_todo h hret (.one stepR_loop) (.cons (.code _) (.cons (.inLoop _) ht))
  | scope c => subst hk; exact fun _ => goes_todo h hret (.one stepR_scope) (.cons (.code _) (.cons (.inScope _) ht))
  | exit id =>
    obtain ⟨h1, h2⟩ := exit_ok (id := id) ht
    unfold codeA
    dsimp only
    split
    · rename_i l' hl
      obtain ⟨k', hk', hrk⟩ := h1 l' hl
      subst hk
      exact fun _ => goes_todo h hret (.one (stepR_exit hk')) hrk
    · rename_i hl
      cases hns : noStop t with
      | false => trivial
      | true =>
        refine leaveA_ok h hret (some (.exit id)) (fun _ hj => by rcases hj with e | e <;> cases e) (fun b c cs' v w' hro hrun => ?_)
        subst hk
        exact stepR_round_exit (by rw [hb]; exact hro) hkn (h2 hl hns) hrun
  | goto l =>
    obtain ⟨h1, h2⟩ := goto_ok (t := l) ht
    unfold codeA
    dsimp only
    split
    · rename_i l' hl
      obtain ⟨k', hk', hrk⟩ := h1 l' hl
      subst hk
      exact fun _ => goes_todo h hret (.one (stepR_goto hk')) hrk
    · rename_i hl
      cases hns : noStop t with
      | false => trivial
      | true =>
        refine leaveA_ok h hret (some (.goto l)) (fun _ hj => by rcases hj with e | e <;> cases e) (fun b c cs' v w' hro hrun => ?_)
        subst hk
        exact stepR_round_goto (by rw [hb]; exact hro) hkn (h2 hl hns) hrun
  | ret =>
    refine leaveA_ok h hret (some .ret) (fun hro _ => ?_) (fun b c cs' v w' hro hrun => ?_)
    · subst hk; exact stepR_ret (by rw [hb]; exact hro)
    · subst hk; exact stepR_round_ret (by rw [hb]; exact hro) hkn hrun
  | region id ops d =>
    cases d with
    | false =>
      subst hk
      refine fun _ => goes_todo h hret (.one stepR_region) (.cons ?_ ht)
      have := RI.inReg (σ := σ) ops 0 ops.toList (by simp)
      rwa [Array.length_toList, ← List.range_eq_range'] at this
    | true => trivial
  | rangeFunc g ps asg body => exact rangeA_ok hN h hret hk ht
  | refuse why => trivial

theorem begA_ok (h : RSt Κ B G σ s rd fn ro a k cs w) (hret : s.fr.ret = false) {t : List AI} {kt : List Item} (hk : k = .beginRound :: kt) (ht : RK Κ σ t kt) :
    OutOk Κ P B G σ s rd fn (lone ((bF s.fr.fn ro).atR a k) (cs ++ cs0) w) cs0 w (begA s t) := by
  have hrd := h.fr.rd
  unfold begA
  split
  · rename_i id hid
    rw [hid] at hrd
    cases hrd with
    | some _ b z hs =>
      split
      · rename_i pend f sz tm ps asg body df hg
        obtain ⟨L, hh, h1, h2, g1, g2⟩ := loop_turn (st' := .busy) (pend' := pend) (nx := s.nx) h.rel hg hs
        have hset : ∀ o, (setObj b o).run P w = .ok () { w with heap := w.heap.setIfInBounds b o } := fun o => by simp [setObj, Sem.run, hh]
        subst hk
        intro _
        refine goes_todo_heap (s1 := s.turn _ s.nx) h hret rfl rfl g1 g2 (.one (stepR_beginRound rfl ?_)) ht
        have e : ({ L with state := .busy, pending := pend } : Loop) = { L with state := .busy } := by rw [← h2]
        rw [e]
        simp only [Instr.beginRound, Instr.getLoop, Sem.run_bind, run_getLoop hh, Result.andThen_ok, Sem.run_pure, hset, h1]
      · trivial
  · trivial

theorem endRFA_ok (h : RSt Κ B G σ s rd fn ro a k cs w) (hret : s.fr.ret = false) {id b z : Nat} (hs : σ id = some (b, z)) {t : List AI} {kt : List Item} (hk : k = .endRangeFunc b :: kt) (ht : RK Κ σ t kt) :
    OutOk Κ P B G σ s rd fn (lone ((bF s.fr.fn ro).atR a k) (cs ++ cs0) w) cs0 w (endRFA s id t) := by
  unfold endRFA
  split
  · rename_i st pend f sz tm ps asg body df hg
    split
    · trivial
    · rename_i hnb
      obtain ⟨L, hh, h1, h2, g1, g2⟩ := loop_turn (st' := .exhausted) (pend' := pend) (nx := s.nx) h.rel hg hs
      have hset : ∀ o, (setObj b o).run P w = .ok () { w with heap := w.heap.setIfInBounds b o } := fun o => by simp [setObj, Sem.run, hh]
      have e : ({ L with state := .exhausted, pending := pend } : Loop) = { L with state := .exhausted } := by rw [← h2]
      rw [e] at g1 g2
      have hrun : (Instr.endLoop b).run P w = .ok pend { w with heap := w.heap.setIfInBounds b (.loop { L with state := .exhausted }) } := by
        have hne : (L.state == LoopState.busy) = false := by
          rw [h1]
          cases st <;> first | rfl | exact absurd rfl (hnb)
        simp only [Instr.endLoop, Instr.getLoop, Sem.run_bind, run_getLoop hh, Result.andThen_ok, Sem.run_pure, hne, Bool.false_eq_true, if_false, hset, h2]
      subst hk
      intro _
      refine goes_todo_heap (s1 := s.turn _ s.nx) h hret rfl rfl g1 g2 (.one (stepR_endRangeFunc hrun)) ?_
      cases pend with
      | none => exact ht
      | some c => exact .cons (.code _) ht
  · trivial

theorem retA_ok (h : RSt Κ B G σ s rd fn ro a k cs w) (hret : s.fr.ret = true) :
    OutOk Κ P B G σ s rd fn (lone (mkF s.fr ro a k) (cs ++ cs0) w) cs0 w (retA P s) := by
  have hdf := h.fr.df
  have hmode : (mkF s.fr ro a k).mode = .returning := by simp [mkF, hret]
  unfold retA
  split
  · rename_i d ds hd
    rw [hd] at hdf
    obtain ⟨ad, hade⟩ : ∃ ad, a.defers = ad := ⟨_, rfl⟩
    rw [hade] at hdf
    cases hdf with
    | cons hs ht =>
      rename_i b z dl
      split
      · rename_i hg
        obtain ⟨k', z', o, hs', hh, hro, _⟩ := h.rel.blk d _ hg
        rw [hs] at hs'; simp at hs'; obtain ⟨rfl, rfl⟩ := hs'
        cases hro
        obtain ⟨g1, g2⟩ := Rel.kill (nx := s.nx) (w' := { w with heap := w.heap.setIfInBounds b (.deferred none) }) h.rel hg rfl hs (by simp) (fun j hj => by simp [Array.getElem?_setIfInBounds_ne (Ne.symm hj)]) rfl rfl rfl
        have hrun : (Instr.takeDeferred b).run P w = .ok [] { w with heap := w.heap.setIfInBounds b (.deferred none) } := by
          have h1 : (getObj b).run P w = .ok (.deferred (some [])) w := by simp [getObj, Sem.run, hh]
          have h2 : ∀ o, (setObj b o).run P w = .ok () { w with heap := w.heap.setIfInBounds b o } := fun o => by simp [setObj, Sem.run, hh]
          simp only [Instr.takeDeferred, Sem.run_bind, h1, Result.andThen_ok, h2, Sem.run_pure]
        intro _
        refine ⟨σ, ro, { a with defers := dl }, k, cs, _, .one (step_lone_go ?_), ⟨⟨h.fr.tm, ht, fun e => ?_, h.fr.rd⟩, h.cs, g1, Nat.le_trans h.big g2.size, ?_⟩, g2⟩
        · simp [stepG, unwind, mkF, hret, Frame.atR, hade, Sem.runT_eq, hrun]
        · exact absurd (show s.fr.ret = false from e) (by rw [hret]; simp)
        · have := botF_congr (f := s.fr) (f' := { s.fr with df := ds }) rfl rfl s.cs
          exact ⟨this.1.trans h.bot.1, this.2.trans h.bot.2⟩
      · trivial
  · rename_i hd
    rw [hd] at hdf
    split
    · rename_i fnn hfn
      split
      · rename_i x hx
        obtain ⟨v, hv, hxv⟩ := results_ok (P := P) h.rel h.fr.tm hx
        have hdn : a.defers = [] := by
          generalize a.defers = ad at hdf
          cases hdf; rfl
        have hleave : (mkF s.fr ro a k).leaving P w (.returned v) := ⟨hmode, by simp [mkF, Frame.atR, hdn], rfl, fnn, hfn, hv⟩
        split
        · rename_i hcs
          intro _
          have hc := h.cs
          have hbot := h.bot
          rw [hcs] at hc hbot
          cases hc
          exact ⟨σ, w, v, hxv, h.rel, .refl .., fun c cs' e => by subst e; exact .one (step_leave_returned hleave), fun _ => ⟨_, .refl .., hleave, hbot.2⟩⟩
        · rename_i c fs hcs
          split
          · rename_i c' hf
            intro _
            exact goes_pop (s1 := s) h hcs hf h.rel (.refl ..) hxv fun f cs' e => by subst e; exact .one (step_leave_returned hleave)
          · trivial
      · trivial
    · trivial

theorem todoA_ok {X : FuncId → Option ExtK} (hN : NoNum P) (hX : XOk P X) (h : RSt Κ B G σ s rd fn ro a k cs w) (hret : s.fr.ret = false) :
    OutOk Κ P B G σ s rd fn (lone ((bF s.fr.fn ro).atR a k) (cs ++ cs0) w) cs0 w (todoA P G X s) := by
  have ht := h.fr.td hret
  unfold todoA
  split
  · rename_i ops i o rest t htodo
    rw [htodo] at ht
    cases ht with
    | cons hi hkt =>
      cases hi with
      | inReg _ _ _ hd =>
        obtain ⟨hop, hdrop⟩ := drop_head hd
        simp only [List.length_cons, List.range'_succ] at h ⊢
        split
        · rename_i hw
          exact operA_ok hN hX h hret rfl hop (wanted_ok h.fr.tm hw)
        · rename_i hw
          refine putV_ok h hret rfl rfl fun _ => ⟨σ, w, undef, h.rel, .refl .., .tup [] [] rfl (by simp), .one ?_⟩
          rw [Frame.finish_atR]
          exact stepR_op_skip (by rw [hop]; simp [wanted_ok h.fr.tm hw])
        · trivial
  · rename_i ops i t htodo
    rw [htodo] at ht
    cases ht with
    | cons hi hkt =>
      cases hi with
      | inReg _ _ _ hd => exact fun _ => goes_todo h hret (.one stepR_region_end) hkt
  · rename_i c t htodo
    rw [htodo] at ht
    cases ht with
    | cons hi hkt => cases hi; exact codeA_ok hN h hret rfl hkt
  · rename_i id t htodo
    rw [htodo] at ht
    cases ht with
    | cons hi hkt => cases hi; exact fun _ => goes_todo h hret (.one stepR_inBlock) hkt
  · rename_i c t htodo
    rw [htodo] at ht
    cases ht with
    | cons hi hkt => cases hi; exact fun _ => goes_todo h hret (.one stepR_inScope) hkt
  · rename_i c t htodo
    rw [htodo] at ht
    cases ht with
    | cons hi hkt => cases hi; exact fun _ => goes_todo h hret (.one stepR_inLoop) (.cons (.code _) (.cons (.inLoop _) hkt))
  · rename_i t htodo
    rw [htodo] at ht
    cases ht with
    | cons hi hkt => cases hi; exact begA_ok h hret rfl hkt
  · rename_i id t htodo
    rw [htodo] at ht
    cases ht with
    | cons hi hkt =>
      cases hi with
      | endRF _ b z hs => exact endRFA_ok h hret hs rfl hkt
  · trivial
  · rename_i t htodo
    unfold stopA
    split
    · rename_i hcs
      exact ⟨rfl, hcs, hret, htodo⟩
    · trivial
  · rename_i htodo
    rw [htodo] at ht
    cases ht
    refine leaveA_ok h hret none (fun hro _ => stepR_end (by exact hro)) (fun b c cs' v w' hro hrun => stepR_round_end (by exact hro) rfl hrun)

theorem stp_ok {X : FuncId → Option ExtK} (hN : NoNum P) (hX : XOk P X) (h : RSt Κ B G σ s rd fn ro a k cs w) :
    OutOk Κ P B G σ s rd fn (lone (mkF s.fr ro a k) (cs ++ cs0) w) cs0 w (stp P G X s) := by
  unfold stp
  split
  · rename_i hret; exact retA_ok h hret
  · rename_i hret; rw [mkF_run hret]; exact todoA_ok hN hX h hret
end
end Go.Ex
