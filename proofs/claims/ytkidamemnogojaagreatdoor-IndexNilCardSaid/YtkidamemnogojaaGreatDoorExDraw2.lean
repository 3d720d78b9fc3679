/-
  The abstract machine: one operation of a region that draws.
-/
import Derived.Test.YtkidamemnogojaaGreatDoorExDraw
set_option linter.unusedVariables false
set_option linter.unusedSimpArgs false
namespace Go.Ex

/-- The end of a run: of the lowest activation, or the end that is set. -/
def Fin' (Κ : List Item) (P : Program) (B G : Nat) (σ : Sg) (s : St) (rd : Option Nat) (fn : FuncId) (m : Machine) (cs0 : List Frame) (w : World) (v : AV) (s' : St) : Prop :=
  (isStopV v = true → Goes Κ P B G σ s rd fn m cs0 w s' ∧ s'.cs = [] ∧ s'.fr.ret = false ∧ s'.fr.todo = [.stop]) ∧ (isStopV v = false → Ends P B G σ s rd fn m cs0 w v s')
/-- What is shown of a run of a frame to its end. -/
noncomputable def RunOk (P : Program) (G : Nat) (runC : St → Option (AV × St)) : Prop := ∀ s v s', runC s = some (v, s') → Low s.hp s.nx → Keeps s s' ∧
  ∀ (Κ : List Item) (B : Nat) (σ : Sg) (rd : Option Nat) (fn : FuncId) (ro : Option Nat) (a : Act) (k : List Item) (cs cs0 : List Frame) (w : World), RSt Κ B G σ s rd fn ro a k cs w → Fresh σ s.nx s'.nx → Fin' Κ P B G σ s rd fn (lone (mkF s.fr ro a k) (cs ++ cs0) w) cs0 w v s'

/-- One operation is done. -/
structure Did (P : Program) (G : Nat) (ops : Array Oper) (i : Nat) (recs us : List Rec) (s : St) (o : Oper) (recs' : List Rec) (s' : St) (e : Ent) : Prop where
  recs : recs' = ⟨i, e.ft, s.nx, e.names⟩ :: recs
  nx : e.nx = s.nx
  nx' : e.nx' = s'.nx
  hp : s'.hp = app e.dl s.hp
  fr : finishA s.fr e.v = some s'.fr
  cs : s'.cs = s.cs
  beside : besideA ops o e.names us = true
  view : ∀ x b, e.V.get x = some b → s.hp.get x = some b ∧ x ∉ logsOf us ∧ ∀ l, e.ft = some l → x ∈ l
  keeps : Keeps s s'
  exec : ∀ B, ExecOk P B G ops s.fr.sz s.fr.tm.get i o e

section
variable {P : Program} {G : Nat} {X : FuncId → Option ExtK} {ops : Array Oper} {i : Nat} {recs us recs' : List Rec} {s s' : St} {o : Oper}

theorem finF_eq (fr : Fr) (v : AV) : finishA fr v = (match finF fr.sz fr.tm fr.todo v with
    | some (tm, todo) => some { fr with tm, todo }
    | none => none) := by
  obtain ⟨fn, sz, tm, todo, df, rd, ret⟩ := fr
  cases todo with
  | nil => rfl
  | cons a t =>
    cases a with
    | inReg ops k r => cases r with
      | nil => rfl
      | cons o r =>
        show _ = (match finR o.dst sz tm (.inReg ops (k + 1) r :: t) v with
          | some (tm, todo) => some (⟨fn, sz, tm, todo, df, rd, ret⟩ : Fr)
          | none => none)
        simp only [finishA]
        cases o.dst with
        | none => rfl
        | some d =>
          show _ = (match cond (Nat.blt d sz) (some (tm.set d (some v), AI.inReg ops (k + 1) r :: t)) none with
            | some (tm, todo) => some (⟨fn, sz, tm, todo, df, rd, ret⟩ : Fr)
            | none => none)
          dsimp only
          cases Nat.blt d sz <;> rfl
    | _ => rfl
theorem drawPut_eq (ft : Option (List Nat)) (dl : List (Nat × Option Blk)) (nx : Nat) (v : AV) : drawPut ops i recs us s o ft dl nx v = (bif besideA ops o (dl.map (·.1)) us then
    match finishA s.fr v with
    | some fr => some (⟨i, ft, s.nx, dl.map (·.1)⟩ :: recs, { s.turn dl nx with fr })
    | none => none
  else none) := by
  unfold drawPut
  rw [finF_eq]
  obtain ⟨⟨fn, sz, tm, todo, df, rd, ret⟩, cs, hp, nx0, lb, wl⟩ := s
  simp only
  cases besideA ops o (dl.map (·.1)) us with
  | false => rfl
  | true =>
    simp only [cond_true]
    cases finF sz tm todo v with
    | none => rfl
    | some q => obtain ⟨tm', todo'⟩ := q; cases dl <;> rfl
theorem drawPut_did {ft : Option (List Nat)} {dl : List (Nat × Option Blk)} {nx : Nat} {v : AV} (h : drawPut ops i recs us s o ft dl nx v = some (recs', s')) (V : Tr Blk)
    (hl : Low s.hp s.nx) (hg : s.nx ≤ nx ∧ ∀ p ∈ dl, p.1 < nx) (hV : ∀ x b, V.get x = some b → s.hp.get x = some b ∧ x ∉ logsOf us ∧ ∀ l, ft = some l → x ∈ l)
    (hex : ∀ B, ExecOk P B G ops s.fr.sz s.fr.tm.get i o ⟨V, dl, v, s.nx, nx, ft⟩) : ∃ e, Did P G ops i recs us s o recs' s' e := by
  rw [drawPut_eq] at h
  rcases cond_eq_some h with ⟨hb, h'⟩ | ⟨_, h'⟩
  · split at h'
    · rename_i fr hf
      simp only [Option.some.injEq, Prod.mk.injEq] at h'
      obtain ⟨rfl, rfl⟩ := h'
      exact ⟨⟨V, dl, v, s.nx, nx, ft⟩, rfl, rfl, rfl, rfl, hf, rfl, hb, hV, .turn hl hg.1 hg.2 rfl rfl rfl rfl, hex⟩
    · cases h'
  · cases h'

theorem low_part {hp V : Tr Blk} {nx : Nat} (hl : Low hp nx) (hV : ∀ x b, V.get x = some b → hp.get x = some b) : Low V nx := fun x hx => by
  cases h : V.get x with
  | none => rfl
  | some b => have := hl x hx; rw [hV x b h] at this; cases this

theorem without_view {us : List Rec} {s : St} : ∀ x b, (without (logsOf us) s.hp).get x = some b → s.hp.get x = some b ∧ x ∉ logsOf us ∧ ∀ l, (none : Option (List Nat)) = some l → x ∈ l := by
  intro x b h
  rw [without_get] at h
  split at h
  · cases h
  · rename_i hn; exact ⟨h, hn, fun l hl => by cases hl⟩

/-- A call of a function or of a round, in a region that draws. -/
theorem drawCall_did {runC : St → Option (AV × St)} (hrun : RunOk P G runC) {fr' : Fr} (h : drawCall runC ops i recs us s o fr' = some (recs', s')) (hl : Low s.hp s.nx) (hret : fr'.ret = false)
    (hent : ∀ (B : Nat) (σ : Sg) (w : World) (a : Act) (tm' : Tr AV), RT σ s.fr.sz tm' a.tmps → (∀ t, t ∈ o.looksAt ops → tm'.get t = s.fr.tm.get t) → Rel B G σ (without (logsOf us) s.hp) w → B ≤ w.heap.size →
      ∀ (b : Frame) (rest : List Nat) (K : List Item) (cs : List Frame), ∃ ro a' k', RF [] σ fr' ro a' k' ∧
        step P (lone (b.atR a (.inRegion ops (i :: rest) :: K)) cs w) = .next (lone ((bF fr'.fn ro).atR a' k') (b.atR a (.inRegion ops (i :: rest) :: K) :: cs) w))
    (ho : ops[i]? = some o) : ∃ e, Did P G ops i recs us s o recs' s' e := by
  unfold drawCall at h
  split at h
  · rename_i v s1 hr
    obtain ⟨hv, h⟩ : isStopV v = false ∧ drawPut ops i recs us s o none (changes s1.hp (uniq s1.wl ++ fromTo s.nx (s1.nx - s.nx))) s1.nx v = some (recs', s') := by
      rcases cond_eq_some h with ⟨_, h'⟩ | h'
      · cases h'
      · exact h'
    have hlow : Low (without (logsOf us) s.hp) s.nx := low_part hl fun x b hx => (without_view x b hx).1
    obtain ⟨hk, hends⟩ := hrun _ _ _ hr hlow
    have hk1 : s.nx ≤ s1.nx := hk.le
    have hwl : ∀ x ∈ uniq s1.wl, x < s.nx := fun x hx => by
      rcases hk.wlb x (uniq_mem.1 hx) with h1 | h1
      · cases h1
      · exact h1
    have hnames : ∀ x, x ∈ uniq s1.wl ++ fromTo s.nx (s1.nx - s.nx) → x < s1.nx := by
      intro x hx
      rcases List.mem_append.1 hx with h1 | h1
      · have := hwl x h1; omega
      · have := fromTo_iff.1 h1; omega
    have happ : ∀ x, (app (changes s1.hp (uniq s1.wl ++ fromTo s.nx (s1.nx - s.nx))) (without (logsOf us) s.hp)).get x = s1.hp.get x := by
      intro x
      rw [app_get, changes_look]
      by_cases hx : x ∈ uniq s1.wl ++ fromTo s.nx (s1.nx - s.nx)
      · rw [if_pos hx]
      · rw [if_neg hx]
        simp only
        rcases Nat.lt_or_ge x s.nx with h1 | h1
        · exact (hk.same x h1 fun hm => hx (List.mem_append_left _ (uniq_mem.2 hm))).symm
        · have h2 : s1.nx ≤ x := by
            rcases Nat.lt_or_ge x s1.nx with h3 | h3
            · exact absurd (List.mem_append_right _ (fromTo_iff.2 ⟨h1, by omega⟩)) hx
            · exact h3
          rw [hlow x h1, hk.low x h2]
    refine drawPut_did h (without (logsOf us) s.hp) hl ⟨hk1, fun p hp => hnames p.1 (by rw [← changes_names (hp := s1.hp) (l := uniq s1.wl ++ fromTo s.nx (s1.nx - s.nx))]; exact List.mem_map_of_mem hp)⟩ without_view ?_
    intro B σ w a tm' ht hag hrel hB hf b rest K cs
    obtain ⟨ro, a', k', h1, h2⟩ := hent B σ w a tm' ht hag hrel hB b rest K cs
    have hst : RSt [] B G σ { fr := fr', cs := [], hp := without (logsOf us) s.hp, nx := s.nx, lb := s.nx, wl := [] } fr'.rd fr'.fn ro a' k' [] w := ⟨h1, .nil, hrel, hB, rfl, rfl⟩
    obtain ⟨τ, w', u, g1, g2, g3, g4, _⟩ := (hends [] B σ fr'.rd fr'.fn ro a' k' [] (b.atR a (.inRegion ops (i :: rest) :: K) :: cs) w hst hf).2 hv
    refine ⟨τ, w', u, ?_, g1, g2.congr happ, g3.congr (fun _ => rfl) happ⟩
    have := g4 _ _ rfl
    rw [Frame.finish_atR, ho] at this
    rw [mkF_run (by exact hret)] at this
    exact .head h2 this
  · cases h

theorem drawOne_did {runC : St → Option (AV × St)} (hrun : RunOk P G runC) (hN : NoNum P) (hX : XOk P X) (h : drawOne P G X runC ops i recs us s o = some (recs', s')) (hl : Low s.hp s.nx) (ho : ops[i]? = some o) :
    ∃ e, Did P G ops i recs us s o recs' s' e := by
  have looks : ∀ {tm' : Tr AV}, (∀ t, t ∈ o.looksAt ops → tm'.get t = s.fr.tm.get t) → ∀ x ∈ o.op.operands, ev G tm' x = ev G s.fr.tm x := fun h => ev_congr h
  unfold drawOne at h
  split at h
  · cases h
  · rename_i hw
    refine drawPut_did h .lf hl ⟨Nat.le_refl _, by simp⟩ (fun x b hx => by simp [Tr.get_lf] at hx) ?_
    intro B σ w a tm' ht hag hrel hB hf b rest K cs
    refine ⟨σ, w, undef, .one ?_, .tup [] [] rfl (by simp), hrel, .refl ..⟩
    have := stepR_op_skip (P := P) (b := b) (a := a) (k := K) (cs := cs) (w := w) (ops := ops) (i := i) (rest := rest) (by rw [ho]; simp [wanted_ok ht (by rw [wanted_congr hag]; exact hw)])
    rw [ho] at this; exact this
  · rename_i hw
    have want : ∀ {σ : Sg} {a : Act} {tm' : Tr AV}, RT σ s.fr.sz tm' a.tmps → (∀ t, t ∈ o.looksAt ops → tm'.get t = s.fr.tm.get t) → Region.wanted o (yielded ops a.tmps) = true := fun ht hag => wanted_ok ht (by rw [wanted_congr hag]; exact hw)
    split at h
    · rename_i r hr
      have hview : ∀ x b, (restrictA s.hp (logsOf us) (footO G s.fr.tm o) .lf).get x = some b → s.hp.get x = some b ∧ x ∉ logsOf us ∧ ∀ l, some (footO G s.fr.tm o) = some l → x ∈ l := by
        intro x b hx
        rcases restrictA_get hx with ⟨h1, h2, h3⟩ | h1
        · exact ⟨h3, h2, fun l e => by cases e; exact h1⟩
        · simp [Tr.get_lf] at h1
      have hlow := low_part hl fun x b hx => (hview x b hx).1
      refine drawPut_did h _ hl (aop_good hlow hr) hview ?_
      intro B σ w a tm' ht hag hrel hB hf b rest K cs
      have hr' : aop P G tm' (restrictA s.hp (logsOf us) (footO G s.fr.tm o) .lf) s.nx o = some r := by rw [aop_congr o (looks hag)]; exact hr
      obtain ⟨τ, w', v, h1, h2, h3, h4⟩ := aop_ok hrel hB ht hr' hf
      refine ⟨τ, w', v, .one ?_, h2, h3, h4⟩
      have := step_value (P := P) (b := b) (a := a) (k := K) (cs := cs) (w := w) (w' := w') (rest := rest) ho (want ht hag) (not_defer hr) h1
      rw [Frame.finish_atR, ho] at this; exact this
    · split at h
      · rename_i c hop
        have hd : ∀ c', o.op ≠ .defer c' := fun c' e => by rw [hop] at e; cases e
        have callee : ∀ {tm' : Tr AV} {k : Callk}, (∀ t, t ∈ o.looksAt ops → tm'.get t = s.fr.tm.get t) → calleeA P G s.fr.tm c = some k → calleeA P G tm' c = some k := fun hag hc => by
          rw [callee_congr (fun x hx => looks hag x (by rw [hop]; simpa [Op.operands] using hx))]; exact hc
        split at h
        · rename_i g args hc
          split at h
          · rename_i r hr
            refine drawPut_did h .lf hl (extO_good (fun x _ => Tr.get_lf x) hr) (fun x b hx => by simp [Tr.get_lf] at hx) ?_
            intro B σ w a tm' ht hag hrel hB hf b rest K cs
            obtain ⟨g1, _⟩ := callee_ok hrel ht hop (callee hag hc)
            obtain ⟨vs, hvs, hex⟩ := g1 g args rfl
            obtain ⟨τ, w', v, h1, h2, h3, h4⟩ := extO_ok hX hrel hB hvs hr hf (b.atR a (.inRegion ops (i :: rest) :: K) :: cs)
            refine ⟨τ, w', v, ?_, h2, h3, h4⟩
            have := step_ext (P := P) (b := b) (a := a) (k := K) (cs := cs) (w := w) (w' := w') (v := v) (rest := rest) hN ho (want ht hag) hd hex h1
            rw [Frame.finish_atR, ho] at this; exact this
          · split at h
            · rename_i fr' hfr
              have hret : fr'.ret = false := by
                unfold enterA at hfr
                repeat' split at hfr
                all_goals first
                  | cases hfr; done
                  | (rcases cond_eq_some hfr with ⟨_, h'⟩ | ⟨_, h'⟩
                     · simp only [Option.some.injEq] at h'; subst h'; rfl
                     · cases h')
              refine drawCall_did hrun h hl hret ?_ ho
              intro B σ w a tm' ht hag hrel hB b rest K cs
              obtain ⟨g1, _⟩ := callee_ok hrel ht hop (callee hag hc)
              obtain ⟨vs, hvs, hex⟩ := g1 g args rfl
              obtain ⟨fnn, cc, a', h1, h2, h3, h4, h5, h6, h7⟩ := enter_ok hfr hvs
              refine ⟨none, a', _, h4, ?_⟩
              rw [← h3]
              exact step_enter ho (want ht hag) hd (by rw [hex]; exact run_callFunc_enter hN h1 h2 vs)
            · cases h
        · rename_i id args hc
          split at h
          · rename_i fr' hfr
            have hret : fr'.ret = false := by
              unfold roundA at hfr
              split at hfr
              · rcases cond_eq_some hfr with ⟨_, h'⟩ | ⟨_, h'⟩
                · simp only [Option.some.injEq] at h'; subst h'; rfl
                · cases h'
              · cases hfr
            refine drawCall_did hrun h hl hret ?_ ho
            intro B σ w a tm' ht hag hrel hB b rest K cs
            obtain ⟨_, g2⟩ := callee_ok hrel ht hop (callee hag hc)
            obtain ⟨bb, z, vs, hσ, hvs, hex⟩ := g2 id args rfl
            obtain ⟨l, f, tmps, asg, body, a', k', h1, h2, h3, h4, h5⟩ := round_ok (P := P) hrel hfr hσ hvs
            refine ⟨some bb, a', k', h3, ?_⟩
            rw [← h2]
            exact step_round ho (want ht hag) hd (by rw [hex]; exact h1)
          · cases h
        · cases h
      · cases h
end
end Go.Ex
