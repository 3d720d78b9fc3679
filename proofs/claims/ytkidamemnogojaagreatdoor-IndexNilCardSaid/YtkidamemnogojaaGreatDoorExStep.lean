/-
  The abstract machine: one step of it is steps of the model's.
-/
import Derived.Test.YtkidamemnogojaaGreatDoorExMoves
set_option linter.unusedVariables false
set_option linter.unusedSimpArgs false
namespace Go.Ex

/-- The lowest frame. -/
def botF : Fr → List Fr → Fr
  | f, [] => f
  | _, c :: cs => botF c cs

theorem botF_congr {f f' : Fr} (h1 : f'.rd = f.rd) (h2 : f'.fn = f.fn) (cs : List Fr) : (botF f' cs).rd = (botF f cs).rd ∧ (botF f' cs).fn = (botF f cs).fn := by
  cases cs with
  | nil => exact ⟨h1, h2⟩
  | cons c cs => exact ⟨rfl, rfl⟩

structure RSt (Κ : List Item) (B G : Nat) (σ : Sg) (s : St) (rd : Option Nat) (fn : FuncId) (ro : Option Nat) (a : Act) (k : List Item) (cs : List Frame) (w : World) : Prop where
  fr : RF Κ σ s.fr ro a k
  cs : RC' Κ σ s.cs cs
  rel : Rel B G σ s.hp w
  big : B ≤ w.heap.size
  bot : (botF s.fr s.cs).rd = rd ∧ (botF s.fr s.cs).fn = fn

/-- It goes on, in a state that the abstract one stands for. -/
def Goes (Κ : List Item) (P : Program) (B G : Nat) (σ : Sg) (s : St) (rd : Option Nat) (fn : FuncId) (m : Machine) (cs0 : List Frame) (w : World) (s' : St) : Prop :=
  ∃ τ ro a k cs w', Steps P m (lone (mkF s'.fr ro a k) (cs ++ cs0) w') ∧ RSt Κ B G τ s' rd fn ro a k cs w' ∧ Ext σ τ s.hp s'.hp s.nx s'.nx w w'

/-- The lowest activation ends. -/
def Ends (P : Program) (B G : Nat) (σ : Sg) (s : St) (rd : Option Nat) (fn : FuncId) (m : Machine) (cs0 : List Frame) (w : World) (x : AV) (s' : St) : Prop :=
  ∃ τ w' v, Rv τ x v ∧ Rel B G τ s'.hp w' ∧ Ext σ τ s.hp s'.hp s.nx s'.nx w w' ∧ (∀ c cs, cs0 = c :: cs → Steps P m (lone (c.finish v) cs w')) ∧
    (rd = none → ∃ fr, Steps P m (lone fr cs0 w') ∧ fr.leaving P w' (.returned v) ∧ fr.fn = fn)

def OutOk (Κ : List Item) (P : Program) (B G : Nat) (σ : Sg) (s : St) (rd : Option Nat) (fn : FuncId) (m : Machine) (cs0 : List Frame) (w : World) : Out → Prop
  | .go s' => Fresh σ s.nx s'.nx → Goes Κ P B G σ s rd fn m cs0 w s'
  | .done x s' => Fresh σ s.nx s'.nx → Ends P B G σ s rd fn m cs0 w x s'
  | .pick l => l = [] ∨ ∃ r, r ∈ l ∧ ∀ s1, putV ((apartS s).turn r.dl r.nx) r.v = .go s1 → Fresh σ s.nx s1.nx → Goes Κ P B G σ s rd fn m cs0 w s1
  | .stop s' => s' = s ∧ s.cs = [] ∧ s.fr.ret = false ∧ s.fr.todo = [.stop]
  | _ => True

section
variable {Κ : List Item} {P : Program} {B G : Nat} {σ τ : Sg} {s s1 : St} {rd : Option Nat} {fn : FuncId} {ro : Option Nat} {a : Act} {k : List Item} {cs cs0 : List Frame} {w w' : World} {m : Machine}

/-- The top frame's list turns, and nothing else. -/
theorem goes_todo (h : RSt Κ B G σ s rd fn ro a k cs w) {todo : List AI} {k' : List Item} (hret : s.fr.ret = false) (hst : Steps P m (lone ((bF s.fr.fn ro).atR a k') (cs ++ cs0) w)) (hk : RK Κ σ todo k') :
    Goes Κ P B G σ s rd fn m cs0 w { s with fr := { s.fr with todo } } := by
  refine ⟨σ, ro, a, k', cs, w, ?_, ⟨⟨h.fr.tm, h.fr.df, fun _ => hk, h.fr.rd⟩, h.cs, h.rel, h.big, ?_⟩, .refl ..⟩
  · rw [mkF_run (by exact hret)]; exact hst
  · have := botF_congr (f := s.fr) (f' := { s.fr with todo }) rfl rfl s.cs
    exact ⟨this.1.trans h.bot.1, this.2.trans h.bot.2⟩

/-- The top frame's list and the heap turn. -/
theorem goes_todo_heap (h : RSt Κ B G σ s rd fn ro a k cs w) {todo : List AI} {k' : List Item} (hret : s.fr.ret = false) (hfr : s1.fr = s.fr) (hcs : s1.cs = s.cs) (hrel : Rel B G τ s1.hp w') (hext : Ext σ τ s.hp s1.hp s.nx s1.nx w w')
    (hst : Steps P m (lone ((bF s.fr.fn ro).atR a k') (cs ++ cs0) w')) (hk : RK Κ τ todo k') :
    Goes Κ P B G σ s rd fn m cs0 w { s1 with fr := { s1.fr with todo } } := by
  refine ⟨τ, ro, a, k', cs, w', ?_, ⟨⟨?_, ?_, fun _ => hk, ?_⟩, ?_, hrel, Nat.le_trans h.big hext.size, ?_⟩, hext⟩
  · rw [mkF_run (by simp only [hfr]; exact hret)]; simp only [hfr]; exact hst
  · simp only [hfr]; exact h.fr.tm.mono hext.sub
  · simp only [hfr]; exact h.fr.df.mono hext.sub
  · simp only [hfr]; exact h.fr.rd.mono hext.sub
  · simp only [hcs]; exact h.cs.mono hext.sub
  · have := botF_congr (f := s.fr) (f' := { s1.fr with todo }) (by simp only [hfr]) (by simp only [hfr]) s.cs
    simp only [hcs]
    exact ⟨this.1.trans h.bot.1, this.2.trans h.bot.2⟩

/-- A value for the top operation. -/
theorem putV_ok {x : AV} (h : RSt Κ B G σ s rd fn ro a k cs w) (hret : s.fr.ret = false) (hfr : s1.fr = s.fr) (hcs : s1.cs = s.cs) (hrel : Fresh σ s.nx s1.nx → ∃ τ w' v, Rel B G τ s1.hp w' ∧ Ext σ τ s.hp s1.hp s.nx s1.nx w w' ∧ Rv τ x v ∧
      Steps P m (lone (((bF s.fr.fn ro).atR a k).finish v) (cs ++ cs0) w')) : OutOk Κ P B G σ s rd fn m cs0 w (putV s1 x) := by
  unfold putV
  split
  · rename_i fr hf
    intro hfresh
    obtain ⟨τ, w', v, h1, h2, h3, h4⟩ := hrel hfresh
    rw [hfr] at hf
    obtain ⟨a', k', e, h5, h6, h7, h8⟩ := finish_ok (h.fr.mono h2.sub) hret hf h3
    refine ⟨τ, ro, a', k', cs, w', ?_, ⟨h5, ?_, h1, Nat.le_trans h.big h2.size, ?_⟩, h2⟩
    · rw [mkF_run (by exact h6), ← e]; exact h4
    · simp only [hcs]; exact h.cs.mono h2.sub
    · have := botF_congr (f := s.fr) (f' := fr) h7 h8 s.cs
      simp only [hcs]
      exact ⟨this.1.trans h.bot.1, this.2.trans h.bot.2⟩
  · trivial

/-- A frame is pushed. -/
theorem goes_push (h : RSt Κ B G σ s rd fn ro a k cs w) {f1 fr' : Fr} {ro' : Option Nat} {a' a1 : Act} {k' k1 : List Item} (hcs : s1.cs = s.cs) (hrel : Rel B G τ s1.hp w') (hext : Ext σ τ s.hp s1.hp s.nx s1.nx w w')
    (h1 : RF Κ τ f1 ro a1 k1) (h1r : f1.ret = false) (h1d : f1.rd = s.fr.rd) (h1f : f1.fn = s.fr.fn) (h2 : RF Κ τ fr' ro' a' k') (h2r : fr'.ret = false)
    (hst : Steps P m (lone ((bF fr'.fn ro').atR a' k') ((bF s.fr.fn ro).atR a1 k1 :: (cs ++ cs0)) w')) :
    Goes Κ P B G σ s rd fn m cs0 w { s1 with fr := fr', cs := f1 :: s1.cs } := by
  refine ⟨τ, ro', a', k', (bF f1.fn ro).atR a1 k1 :: cs, w', ?_, ⟨h2, ?_, hrel, Nat.le_trans h.big hext.size, ?_⟩, hext⟩
  · rw [mkF_run (by exact h2r), h1f]; exact hst
  · simp only [hcs]; exact .cons h1 h1r (h.cs.mono hext.sub)
  · have := botF_congr (f := s.fr) (f' := f1) h1d h1f s.cs
    simp only [hcs]
    exact ⟨this.1.trans h.bot.1, this.2.trans h.bot.2⟩

/-- A frame is popped. -/
theorem goes_pop (h : RSt Κ B G σ s rd fn ro a k cs w) {c c' : Fr} {fs : List Fr} {x : AV} {v : Value} (hcs : s.cs = c :: fs) (hf : finishA c x = some c') (hrel : Rel B G τ s1.hp w') (hext : Ext σ τ s.hp s1.hp s.nx s1.nx w w') (hv : Rv τ x v)
    (hst : ∀ f cs', cs = f :: cs' → Steps P m (lone (f.finish v) (cs' ++ cs0) w')) :
    Goes Κ P B G σ s rd fn m cs0 w { s1 with fr := c', cs := fs } := by
  have hc := h.cs
  have hbot := h.bot
  rw [hcs] at hc hbot
  cases hc with
  | cons hc hcr ht =>
    obtain ⟨a', k', e, h5, h6, h7, h8⟩ := finish_ok (hc.mono hext.sub) hcr hf hv
    refine ⟨τ, _, a', k', _, w', ?_, ⟨h5, ht.mono hext.sub, hrel, Nat.le_trans h.big hext.size, ?_⟩, hext⟩
    · rw [mkF_run (by exact h6), ← e]; exact hst _ _ rfl
    · have := botF_congr (f := c) (f' := c') h7 h8 fs
      exact ⟨this.1.trans hbot.1, this.2.trans hbot.2⟩

/-- A writable block turns and is given up. -/
theorem Rel.kill {hp : Tr Blk} {id kk z nx : Nat} {b : Blk} (h : Rel B G σ hp w) (hb : hp.get id = some b) (hw : b.wr = true) (hs : σ id = some (kk, z))
    (hsz : w'.heap.size = w.heap.size) (hoth : ∀ j, j ≠ kk → w'.heap[j]? = w.heap[j]?) (hos : w'.os = w.os) (htape : w'.tape = w.tape) (hout : w'.output = w.output) :
    Rel B G σ (hp.set id none) w' ∧ Ext σ σ hp (hp.set id none) nx nx w w' := by
  have hne : ∀ j c kj zj, j ≠ id → hp.get j = some c → σ j = some (kj, zj) → kj ≠ kk := by
    intro j c kj zj hj hc hsj e; subst e; exact hj (h.inj j id c b kj zj z hc hb hsj hs)
  have hg : ∀ j c, (hp.set id none).get j = some c → j ≠ id ∧ hp.get j = some c := fun j c hc => by
    by_cases hj : j = id
    · subst hj; rw [Tr.get_set_same] at hc; cases hc
    · rw [Tr.get_set_other _ _ hj] at hc; exact ⟨hj, hc⟩
  refine ⟨⟨fun j c hc => ?_, fun i j c d k zi zj hc hd => h.inj i j c d k zi zj (hg i c hc).2 (hg j d hd).2, h.gl⟩,
    ⟨.refl σ, fun _ _ h => .inl h, Nat.le_refl _, hos, htape, hout, Nat.le_of_eq hsz.symm, fun j _ hn => hoth j fun e => ?_, fun i c k z hc hs => .inl ⟨i, c, z, (hg i c hc).2, hs, fun e => e⟩⟩⟩
  · obtain ⟨hj, hc⟩ := hg j c hc
    obtain ⟨kj, zj, oj, hsj, hoj, hrj, hBj⟩ := h.blk j c hc
    exact ⟨kj, zj, oj, hsj, by rw [hoth _ (hne j c kj zj hj hc hsj)]; exact hoj, hrj, hBj⟩
  · subst e
    have := hn id b z hb hs; rw [hw] at this; cases this

/-! ### Operations -/
theorem not_defer {tm : Tr AV} {hp : Tr Blk} {nx : Nat} {o : Oper} {r : R} (h : aop P G tm hp nx o = some r) (c : Call) : o.op ≠ .defer c := fun e => by simp [aop, aopM, e] at h

theorem callA_ok {X : FuncId → Option ExtK} (hN : NoNum P) (hX : XOk P X) (h : RSt Κ B G σ s rd fn ro a k cs w) (hret : s.fr.ret = false) {ops : Array Oper} {i : Nat} {rest : List Nat} {o : Oper} {kt : List Item} (hk : k = .inRegion ops (i :: rest) :: kt)
    (ho : ops[i]? = some o) (hw : Region.wanted o (yielded ops a.tmps) = true) {c : Call} (hop : o.op = .call c) {ck : Callk} (hc : calleeA P G s.fr.tm c = some ck) :
    OutOk Κ P B G σ s rd fn (lone ((bF s.fr.fn ro).atR a k) (cs ++ cs0) w) cs0 w (callA P G X s ck) := by
  have hd : ∀ c', o.op ≠ .defer c' := fun c' e => by rw [hop] at e; cases e
  obtain ⟨g1, g2⟩ := callee_ok h.rel h.fr.tm hop hc
  subst hk
  unfold callA
  split
  · rename_i g args
    obtain ⟨vs, hvs, hrun⟩ := g1 g args rfl
    split
    · rename_i r hr
      refine putV_ok h hret rfl rfl fun hf => ?_
      obtain ⟨τ, w', v, h1, h2, h3, h4⟩ := extO_ok hX h.rel h.big hvs hr hf ((bF s.fr.fn ro).atR a (.inRegion ops (i :: rest) :: kt) :: (cs ++ cs0))
      exact ⟨τ, w', v, h3, h4, h2, step_ext hN ho hw hd hrun h1⟩
    · split
      · rename_i fr' hfr
        obtain ⟨fnn, cc, a', h1, h2, h3, h4, h5, h6, h7⟩ := enter_ok hfr hvs
        intro _
        refine goes_push (s1 := s) h rfl h.rel (.refl ..) h.fr hret rfl rfl h4 h5 ?_
        rw [← h3]
        exact .one (step_enter ho hw hd (by rw [hrun]; exact run_callFunc_enter hN h1 h2 vs))
      · trivial
  · rename_i id args
    obtain ⟨b, z, vs, hσ, hvs, hrun⟩ := g2 id args rfl
    split
    · rename_i fr' hfr
      obtain ⟨l, f, tmps, asg, body, a', k', h1, h2, h3, h4, h5⟩ := round_ok (P := P) h.rel hfr hσ hvs
      intro _
      refine goes_push (s1 := s) h rfl h.rel (.refl ..) h.fr hret rfl rfl h3 h4 ?_
      rw [← h2]
      exact .one (step_round ho hw hd (by rw [hrun]; exact h1))
    · trivial

theorem operA_ok {X : FuncId → Option ExtK} (hN : NoNum P) (hX : XOk P X) (h : RSt Κ B G σ s rd fn ro a k cs w) (hret : s.fr.ret = false) {ops : Array Oper} {i : Nat} {rest : List Nat} {o : Oper} {kt : List Item} (hk : k = .inRegion ops (i :: rest) :: kt)
    (ho : ops[i]? = some o) (hw : Region.wanted o (yielded ops a.tmps) = true) :
    OutOk Κ P B G σ s rd fn (lone ((bF s.fr.fn ro).atR a k) (cs ++ cs0) w) cs0 w (operA P G X s o) := by
  unfold operA
  split
  · rename_i r hr
    refine putV_ok h hret rfl rfl fun hf => ?_
    obtain ⟨τ, w', v, h1, h2, h3, h4⟩ := aop_ok h.rel h.big h.fr.tm hr hf
    subst hk
    exact ⟨τ, w', v, h3, h4, h2, .one (step_value ho hw (not_defer hr) h1)⟩
  · split
    · rename_i c hop
      split
      · rename_i ck hc
        exact callA_ok hN hX h hret hk ho hw hop hc
      · trivial
    · rename_i it isS hop
      split
      · rename_i l hpk
        rcases pickO_ok (P := P) h.rel h.fr.tm hop hpk with h0 | ⟨r, hr, _, τ, w', v, h1, h2, h3, h4⟩
        · exact .inl h0
        · refine .inr ⟨r, hr, fun s1 hs1 => ?_⟩
          have hd : ∀ c', o.op ≠ .defer c' := fun c' e => by rw [hop] at e; cases e
          have key : OutOk Κ P B G σ s rd fn (lone ((bF s.fr.fn ro).atR a k) (cs ++ cs0) w) cs0 w (putV ((apartS s).turn r.dl r.nx) r.v) := by
            refine putV_ok h hret rfl rfl fun hf => ?_
            subst hk
            exact ⟨τ, w', v, h3, h4, h2, .one (step_value ho hw hd h1)⟩
          rw [hs1] at key
          exact key
      · trivial
    · trivial

/-! ### Leaving -/
theorem run_endRound {b : Nat} {L : Loop} (hh : w.heap[b]? = some (.loop L)) (jump : Option Code) :
    (Instr.endRound b jump).run P w = .ok (.bool jump.isNone) { w with heap := w.heap.setIfInBounds b (.loop { L with state := if jump.isNone then .ready else .done, pending := jump }) } := by
  have h1 : (getObj b).run P w = .ok (.loop L) w := by simp [getObj, Sem.run, hh]
  have h2 : ∀ o, (setObj b o).run P w = .ok () { w with heap := w.heap.setIfInBounds b o } := fun o => by simp [setObj, Sem.run, hh]
  simp only [Instr.endRound, Instr.getLoop, Sem.run_bind, h1, Result.andThen_ok, Sem.run_pure, h2]

theorem loop_turn {hp : Tr Blk} {id b z : Nat} {st st' : LoopState} {pend pend' : Option Code} {f : FuncId} {sz : Nat} {tm : Tr AV} {ps : List Tmp} {asg body : Code} {df nx : Nat} (hr : Rel B G σ hp w) (hg : hp.get id = some (.loop st pend f sz tm ps asg body df)) (hs : σ id = some (b, z)) :
    ∃ L : Loop, w.heap[b]? = some (.loop L) ∧ L.state = st ∧ L.pending = pend ∧
      Rel B G σ (hp.set id (some (.loop st' pend' f sz tm ps asg body df))) { w with heap := w.heap.setIfInBounds b (.loop { L with state := st', pending := pend' }) } ∧
      Ext σ σ hp (hp.set id (some (.loop st' pend' f sz tm ps asg body df))) nx nx w { w with heap := w.heap.setIfInBounds b (.loop { L with state := st', pending := pend' }) } := by
  obtain ⟨k, z', o, hs', hk, hro, _⟩ := hr.blk id _ hg
  rw [hs] at hs'; simp at hs'; obtain ⟨rfl, rfl⟩ := hs'
  cases hro with
  | loop _ _ _ _ _ ps' _ _ _ d zd tmps ht hd =>
    have hlt : b < w.heap.size := (Array.getElem?_eq_some_iff.1 hk).1
    obtain ⟨g1, g2⟩ := hr.set (w' := { w with heap := w.heap.setIfInBounds b (.loop { state := st', pending := pend', fn := f, tmps, params := ps', assign := asg, body, defers := d }) }) (nx := nx)
      hg rfl hs (o' := .loop { state := st', pending := pend', fn := f, tmps, params := ps', assign := asg, body, defers := d }) (by simp [hlt]) (.loop st' pend' f sz tm ps' asg body df d zd tmps ht hd) rfl (by simp) (fun j hj => by simp [Array.getElem?_setIfInBounds_ne (Ne.symm hj)]) rfl rfl rfl
    exact ⟨_, hk, rfl, rfl, g1, g2⟩

theorem leaveA_ok (h : RSt Κ B G σ s rd fn ro a k cs w) (hret : s.fr.ret = false) (jump : Option Code)
    (h0 : ro = none → (jump = none ∨ jump = some .ret) → step P (lone ((bF s.fr.fn ro).atR a k) (cs ++ cs0) w) = .next (lone { (bF s.fr.fn ro).atR a k with mode := .returning } (cs ++ cs0) w))
    (h1 : ∀ b c cs' v w', ro = some b → (Instr.endRound b jump).run P w = .ok v w' → step P (lone ((bF s.fr.fn ro).atR a k) (c :: cs') w) = .next (lone (c.finish v) cs' w')) :
    OutOk Κ P B G σ s rd fn (lone ((bF s.fr.fn ro).atR a k) (cs ++ cs0) w) cs0 w (leaveA s jump) := by
  have hrd := h.fr.rd
  unfold leaveA
  split
  · rename_i hn
    rw [hn] at hrd
    cases hrd
    have key : ∀ (hj : jump = none ∨ jump = some .ret), Goes Κ P B G σ s rd fn (lone ((bF s.fr.fn none).atR a k) (cs ++ cs0) w) cs0 w { s with fr := { s.fr with ret := true } } := by
      intro hj
      refine ⟨σ, none, a, k, cs, w, .one (h0 rfl hj), ⟨⟨h.fr.tm, h.fr.df, fun e => (by cases e), h.fr.rd⟩, h.cs, h.rel, h.big, ?_⟩, .refl ..⟩
      have := botF_congr (f := s.fr) (f' := { s.fr with ret := true }) rfl rfl s.cs
      exact ⟨this.1.trans h.bot.1, this.2.trans h.bot.2⟩
    split
    · exact fun _ => key (.inl rfl)
    · exact fun _ => key (.inr rfl)
    · trivial
  · rename_i id hid
    rw [hid] at hrd
    cases hrd with
    | some _ b z hs =>
      split
      · rename_i st pend f sz tm ps asg body df hg
        obtain ⟨L, hh, _, _, g1, g2⟩ := loop_turn (st' := bif jump.isNone then .ready else .done) (pend' := jump) (nx := s.nx) h.rel hg hs
        have hrun := run_endRound (P := P) hh jump
        have hst : (if jump.isNone = true then LoopState.ready else .done) = (bif jump.isNone then .ready else .done) := by cases jump.isNone <;> rfl
        rw [hst] at hrun
        dsimp only
        split
        · rename_i c fs hcs
          split
          · rename_i c' hf
            intro _
            refine goes_pop (s1 := s.turn _ s.nx) h hcs hf g1 g2 (.bool _) fun f cs' e => ?_
            subst e
            exact .one (h1 b f (cs' ++ cs0) _ _ rfl hrun)
          · trivial
        · rename_i hcs
          intro _
          have hc := h.cs
          have hbot := h.bot
          rw [hcs] at hc hbot
          cases hc
          refine ⟨σ, _, .bool jump.isNone, .bool _, g1, g2, fun c cs' e => ?_, fun e => ?_⟩
          · subst e
            exact .one (h1 b c cs' _ _ rfl hrun)
          · have := hbot.1
            simp only [botF, hid, e] at this
            cases this
      · trivial
end
end Go.Ex
