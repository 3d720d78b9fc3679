/-
  The abstract machine: a run of it is a run of the model.
-/
import Derived.Test.YtdocondniobcdaaGreatDoorExDraw2
namespace Go.Ex

def dstOf (ops : Array Oper) (m : Nat) : Option Tmp := (ops[m]?).bind (·.dst)
def bitsOf (ops : Array Oper) (m : Nat) : Nat := (Region.before ops).getD m 0

structure DInv (P : Program) (G : Nat) (ops : Array Oper) (K : List AI) (s0 : St) (i : Nat) (recs : List Rec) (s : St) (W : Nat → Ent) : Prop where
  facts : Facts s0.hp s0.fr.tm ops (bitsOf ops) W i
  exec : ∀ (k : Nat) (o : Oper), k < i → ops[k]? = some o → ∀ B, ExecOk P B G ops s0.fr.sz (tmD s0.fr.tm W (dstOf ops) allD k) k o (W k)
  nxs : ∀ k, k < i → s0.nx ≤ (W k).nx ∧ (W k).nx ≤ (W k).nx' ∧ (W k).nx' ≤ s.nx
  nxd : ∀ j k, j < k → k < i → (W j).nx' ≤ (W k).nx
  dsts : ∀ (k : Nat) (o : Oper) (d : Tmp), k < i → ops[k]? = some o → o.dst = some d → d < s0.fr.sz
  recs1 : ∀ r, r ∈ recs → r.i < i ∧ r = ⟨r.i, (W r.i).ft, (W r.i).nx, (W r.i).names⟩
  recs2 : ∀ k, k < i → ∃ r, r ∈ recs ∧ r.i = k
  hp : ∀ x, s.hp.get x = hpD s0.hp W allD i x
  tm : ∀ t, s.fr.tm.get t = tmD s0.fr.tm W (dstOf ops) allD i t
  fr : s.fr = { s0.fr with tm := s.fr.tm, todo := .inReg ops i (ops.toList.drop i) :: K }
  cs : s.cs = s0.cs
  keeps : Keeps s0 s

section
variable {P : Program} {G : Nat} {X : FuncId → Option ExtK} {ops : Array Oper} {K : List AI} {s0 : St}

theorem dinv_step {i : Nat} {recs recs' : List Rec} {s s' : St} {W : Nat → Ent} {o : Oper} {e : Ent} (h : DInv P G ops K s0 i recs s W) (ho : ops[i]? = some o)
    (hd : Did P G ops i recs (looseA (bitsOf ops i) recs) s o recs' s' e) : DInv P G ops K s0 (i + 1) recs' s' (fun k => if k = i then e else W k) := by
  have hWlt : ∀ k, k < i → (if k = i then e else W k) = W k := fun k hk => if_neg (by omega)
  have hWi : (if i = i then e else W i) = e := if_pos rfl
  have hpc : ∀ k x, k ≤ i → hpD s0.hp (fun k => if k = i then e else W k) allD k x = hpD s0.hp W allD k x := fun k x hk => hpD_congr x k fun j hj => ⟨if_neg (by omega), rfl⟩
  have tmc : ∀ k t, k ≤ i → tmD s0.fr.tm (fun k => if k = i then e else W k) (dstOf ops) allD k t = tmD s0.fr.tm W (dstOf ops) allD k t := fun k t hk => tmD_congr t k fun j hj => ⟨if_neg (by omega), rfl⟩
  have hfr := h.fr
  have hsz : s.fr.sz = s0.fr.sz := by rw [hfr]
  have htodo : s.fr.todo = .inReg ops i (ops.toList.drop i) :: K := by rw [hfr]
  have hdrop : ops.toList.drop i = o :: ops.toList.drop (i + 1) := by
    have hi : i < ops.size := (Array.getElem?_eq_some_iff.1 ho).1
    have hv : ops.toList[i]'(by simpa using hi) = o := by have := (Array.getElem?_eq_some_iff.1 ho).2; simpa using this
    rw [List.drop_eq_getElem_cons (by simpa using hi), hv]
  have hfin := hd.fr
  have hdst : dstOf ops i = o.dst := by simp [dstOf, ho]
  have hfr' : (∀ d, o.dst = some d → d < s.fr.sz) ∧ s'.fr = { s.fr with tm := (match o.dst with | some d => s.fr.tm.set d (some e.v) | none => s.fr.tm), todo := .inReg ops (i + 1) (ops.toList.drop (i + 1)) :: K } := by
    unfold finishA at hfin
    rw [htodo, hdrop] at hfin
    simp only at hfin
    cases hq : o.dst with
    | none =>
      rw [hq] at hfin
      simp only [Option.some.injEq] at hfin
      exact ⟨fun d hd => (by cases hd), hfin.symm⟩
    | some d =>
      rw [hq] at hfin
      simp only at hfin
      rcases cond_eq_some hfin with ⟨hb, h'⟩ | ⟨_, h'⟩
      · simp only [Option.some.injEq] at h'
        exact ⟨fun d' hd' => by cases hd'; exact blt_iff.1 hb, h'.symm⟩
      · cases h'
  have hbes := besideA_iff hd.beside
  have hnx := hd.nx
  have hnx' := hd.nx'
  refine ⟨⟨?_, ?_, ?_⟩, ?_, ?_, ?_, ?_, ?_, ?_, ?_, ?_, ?_, hd.cs.trans h.cs, h.keeps.trans hd.keeps⟩
  · intro k hk x b hx
    by_cases e' : k = i
    · subst e'
      rw [hWi] at hx ⊢
      obtain ⟨h1, h2, h3⟩ := hd.view x b hx
      rw [hpc k x (Nat.le_refl _), ← h.hp]
      refine ⟨h1, fun j hj hb => ?_, h3⟩
      rw [hWlt j hj]
      obtain ⟨r, hr, hrj⟩ := h.recs2 j hj
      obtain ⟨_, hre⟩ := h.recs1 r hr
      intro hm
      refine h2 (logsOf_iff.2 ⟨r, looseA_iff.2 ⟨hr, by rw [hrj]; exact hb⟩, ?_⟩)
      rw [hre, hrj]; exact hm
    · have hk' : k < i := by omega
      rw [if_neg e'] at hx ⊢
      obtain ⟨h1, h2, h3⟩ := h.facts.view k hk' x b hx
      rw [hpc k x (by omega)]
      refine ⟨h1, fun j hj hb => ?_, h3⟩
      rw [hWlt j (by omega)]; exact h2 j hj hb
  · intro j k hjk hk hb
    by_cases e' : k = i
    · subst e'
      rw [hWi, hWlt j hjk]
      obtain ⟨r, hr, hrj⟩ := h.recs2 j hjk
      obtain ⟨_, hre⟩ := h.recs1 r hr
      obtain ⟨h1, h2, x, hx, hap⟩ := hbes r (looseA_iff.2 ⟨hr, by rw [hrj]; exact hb⟩)
      rw [hre, hrj] at h1 h2
      refine ⟨fun y hy => ⟨h2 y hy, ?_⟩, fun x' y' hx' hy' => ?_⟩
      · cases hft : (W j).ft with
        | none => rw [hft] at h1; exact h1 y hy
        | some l => rw [hft] at h1; exact h1 y hy
      · rw [hrj] at hx
        rw [hx'] at hx; cases hx
        rw [ho] at hy'; cases hy'
        exact hap
    · rw [if_neg e', hWlt j (by omega)]
      exact h.facts.beside j k hjk (by omega) hb
  · intro k hk x b hx
    rw [hpc k x (by omega)] at hx
    by_cases e' : k = i
    · subst e'
      rw [hWi, hnx]
      rw [← h.hp] at hx
      exact h.keeps.low.lt hx
    · rw [if_neg e']; exact h.facts.low k (by omega) x b hx
  · intro k o' hk ho' B
    by_cases e' : k = i
    · subst e'
      rw [ho] at ho'; cases ho'
      rw [hWi]
      have := hd.exec B
      rw [hsz] at this
      have ht : s.fr.tm.get = tmD s0.fr.tm (fun j => if j = k then e else W j) (dstOf ops) allD k := funext fun t => by rw [h.tm, tmc k t (Nat.le_refl _)]
      rw [ht] at this
      exact this
    · rw [if_neg e']
      have := h.exec k o' (by omega) ho' B
      have ht : tmD s0.fr.tm (fun j => if j = i then e else W j) (dstOf ops) allD k = tmD s0.fr.tm W (dstOf ops) allD k := funext fun t => tmc k t (by omega)
      rw [ht]; exact this
  · intro k hk
    have hle := hd.keeps.le
    have hle0 := h.keeps.le
    by_cases e' : k = i
    · subst e'; rw [hWi, hnx, hnx']; exact ⟨hle0, hle, Nat.le_refl _⟩
    · rw [if_neg e']; obtain ⟨h1, h2, h3⟩ := h.nxs k (by omega); exact ⟨h1, h2, Nat.le_trans h3 hle⟩
  · intro j k hjk hk
    by_cases e' : k = i
    · subst e'; rw [hWi, hWlt j hjk, hnx]; exact (h.nxs j hjk).2.2
    · rw [if_neg e', hWlt j (by omega)]; exact h.nxd j k hjk (by omega)
  · intro k o' d hk ho' hd'
    by_cases e' : k = i
    · subst e'; rw [ho] at ho'; cases ho'; rw [← hsz]; exact hfr'.1 d hd'
    · exact h.dsts k o' d (by omega) ho' hd'
  · intro r hr
    rw [hd.recs] at hr
    rcases List.mem_cons.1 hr with rfl | hr
    · exact ⟨Nat.lt_succ_self _, by simp [hnx]⟩
    · obtain ⟨h1, h2⟩ := h.recs1 r hr
      exact ⟨by omega, by rw [hWlt r.i h1]; exact h2⟩
  · intro k hk
    rw [hd.recs]
    by_cases e' : k = i
    · subst e'; exact ⟨⟨k, e.ft, s.nx, e.names⟩, by simp, rfl⟩
    · obtain ⟨r, hr, hrk⟩ := h.recs2 k (by omega); exact ⟨r, by simp [hr], hrk⟩
  · intro x
    rw [hd.hp, app_get]
    simp only [hpD, allD, cond_true, if_true]
    rw [hpc i x (Nat.le_refl _), ← h.hp x]
    cases look e.dl x <;> rfl
  · intro t
    rw [hfr'.2]
    simp only [tmD, allD, cond_true, if_true, hdst]
    have h2 := h.tm t
    rw [tmc i t (Nat.le_refl _)]
    cases hq : o.dst with
    | none => simp [h2]
    | some d =>
      simp only [Option.some.injEq, Tr.get_set]
      by_cases e' : t = d
      · subst e'; simp
      · simp [e', Ne.symm e', h2]
  · rw [hfr'.2, hfr]

theorem drawA_inv {runC : St → Option (AV × St)} (hrun : RunOk P G runC) (hN : NoNum P) (hX : XOk P X) : ∀ (rest : List Oper) (i : Nat) (recs : List Rec) (s sN : St) (W : Nat → Ent), ops.toList.drop i = rest → i ≤ ops.size → DInv P G ops K s0 i recs s W →
    drawA P G X runC ops (Region.before ops) rest i recs s = some sN → ∃ recs' W', DInv P G ops K s0 ops.size recs' sN W' := by
  intro rest
  induction rest with
  | nil =>
    intro i recs s sN W hd hi h hr
    simp only [drawA, Option.some.injEq] at hr; subst hr
    have : ops.size ≤ i := by
      have := List.drop_eq_nil_iff.1 hd
      simpa using this
    have : i = ops.size := by omega
    subst this
    exact ⟨recs, W, h⟩
  | cons o rest ih =>
    intro i recs s sN W hd hi h hr
    obtain ⟨hop, hdrop⟩ := drop_head hd
    simp only [drawA] at hr
    split at hr
    · rename_i recs' s' hone
      obtain ⟨e, hdid⟩ := drawOne_did hrun hN hX hone h.keeps.low hop
      have hlt : i < ops.size := (Array.getElem?_eq_some_iff.1 hop).1
      exact ih (i + 1) recs' s' sN _ hdrop (by omega) (dinv_step h hop hdid) hr
    · cases hr

/-- The draw of a region's order comes of the region alone. -/
theorem stp_draw {s : St} {k : List AI} (h : stp P G X s = .draw ops k) : s.fr.ret = false ∧ ∃ id, s.fr.todo = .code (.region id ops true) :: k := by
  have hputV : ∀ {s : St} {x : AV}, putV s x ≠ .draw ops k := fun {s x} e => by unfold putV at e; split at e <;> cases e
  have hleave : ∀ {s : St} {j : Option Code}, leaveA s j ≠ .draw ops k := fun {s j} e => by
    unfold leaveA at e
    split at e
    · split at e <;> cases e
    · split at e
      · dsimp only at e
        split at e
        · split at e <;> cases e
        · cases e
      · cases e
  unfold stp at h
  split at h
  · unfold retA at h
    repeat' split at h
    all_goals cases h
  · rename_i hret
    refine ⟨hret, ?_⟩
    unfold todoA at h
    split at h
    · split at h
      · unfold operA at h
        split at h
        · exact absurd h hputV
        · split at h
          · split at h
            · unfold callA at h
              repeat' split at h
              all_goals first
                | exact absurd h hputV
                | cases h
            · cases h
          · cases h
      · exact absurd h hputV
      · cases h
    · cases h
    · rename_i c k' htodo
      cases c with
      | region id ops' d =>
        cases d with
        | true =>
          simp only [codeA, Out.draw.injEq] at h
          obtain ⟨rfl, rfl⟩ := h
          exact ⟨id, htodo⟩
        | false => cases h
      | cond c x y =>
        unfold codeA at h; dsimp only at h
        split at h <;> cases h
      | exit id =>
        unfold codeA at h; dsimp only at h
        split at h
        · cases h
        · exact absurd h hleave
      | goto l =>
        unfold codeA at h; dsimp only at h
        split at h
        · cases h
        · exact absurd h hleave
      | ret => exact absurd (show leaveA s (some .ret) = _ from h) hleave
      | rangeFunc g ps a b =>
        simp only [codeA] at h
        unfold rangeA at h
        repeat' split at h
        all_goals cases h
      | _ => cases h
    · cases h
    · cases h
    · cases h
    · unfold begA at h
      repeat' split at h
      all_goals cases h
    · unfold endRFA at h
      repeat' split at h
      all_goals cases h
    · cases h
    · exact absurd h hleave

/-- A region that draws, done. -/
theorem region_ok {runC : St → Option (AV × St)} (hrun : RunOk P G runC) (hN : NoNum P) (hX : XOk P X) (hm : P.follows .mixedOrders = true) {s sN : St} (hstp : stp P G X s = .draw ops K) (hback : backA ops 0 ops.toList = true)
    (hdraw : drawA P G X runC ops (Region.before ops) ops.toList 0 [] { s with fr := { s.fr with todo := .inReg ops 0 ops.toList :: K } } = some sN) (hl : Low s.hp s.nx) :
    Keeps s sN ∧ ∀ (B : Nat) (σ : Sg) (rd : Option Nat) (fn : FuncId) (ro : Option Nat) (a : Act) (k : List Item) (cs cs0 : List Frame) (w : World), RSt B G σ s rd fn ro a k cs w → Fresh σ s.nx sN.nx → Goes P B G σ s rd fn (lone (mkF s.fr ro a k) (cs ++ cs0) w) cs0 w sN := by
  obtain ⟨hret, id, htodo⟩ := stp_draw hstp
  obtain ⟨recs', W, hinv⟩ := drawA_inv (K := K) (s0 := { s with fr := { s.fr with todo := .inReg ops 0 ops.toList :: K } }) hrun hN hX ops.toList 0 [] _ sN (fun _ => ⟨.lf, [], .junk, 0, 0, none⟩) (by simp) (Nat.zero_le _)
    ⟨⟨fun k hk => by omega, fun j k _ hk => by omega, fun k hk => by omega⟩, fun k o hk => by omega, fun k hk => by omega, fun j k _ hk => by omega, fun k o d hk => by omega, fun r hr => (by cases hr), fun k hk => by omega, fun _ => rfl, fun _ => rfl, rfl, rfl, .of hl rfl rfl rfl rfl⟩ hdraw
  have hkeep : Keeps s sN := Keeps.trans (s' := { s with fr := { s.fr with todo := .inReg ops 0 ops.toList :: K } }) (.of hl rfl rfl rfl rfl) hinv.keeps
  refine ⟨hkeep, ?_⟩
  intro B σ rd fn ro a k cs cs0 w h hfresh
  have htd := h.fr.td hret
  rw [htodo] at htd
  cases htd with
  | cons hi hkt =>
    rename_i it kt
    cases hi
    have hR : Region' P B G s.hp s.fr.tm ops (bitsOf ops) W s.fr.sz s.nx sN.nx :=
      ⟨hinv.facts, fun k o ho => hinv.exec k o (Array.getElem?_eq_some_iff.1 ho).1 ho B, hinv.nxs, hinv.nxd, fun k o d ho => hinv.dsts k o d (Array.getElem?_eq_some_iff.1 ho).1 ho⟩
    have hmid : Mid B G s.hp s.fr.tm ops W s.fr.sz s.nx sN.nx σ w (fun _ => false) σ a { w with drawn := w.drawn + 1 } := by
      refine ⟨⟨s.hp, s.fr.tm, fun x => ?_, fun t => ?_, h.fr.tm, h.rel.drawn _, (Ext.drawn σ s.hp s.nx w _).widen (Nat.le_refl _) hkeep.le⟩, fun j hj _ => ?_⟩
      · generalize ops.size = n
        induction n with
        | zero => rfl
        | succ n ih => simpa [hpD] using ih
      · generalize ops.size = n
        induction n with
        | zero => rfl
        | succ n ih => simpa [tmD] using ih
      · intro x h1 h2
        obtain ⟨g1, g2, g3⟩ := hinv.nxs j hj
        exact hfresh x (Nat.le_trans g1 h1) (Nat.lt_of_lt_of_le h2 g3)
    have hlisted : ∀ m, m < ops.size → (Array.replicate ops.size false).getD m true = false := fun m hm => by simp [hm]
    obtain ⟨τ, a', w', hst, ⟨⟨H, T, h1, h2, h3, h4, h5⟩, _⟩, hdef⟩ := order_ok hR h.big (back_of hback) (before_spec ops) (bF s.fr.fn ro) kt (cs ++ cs0) ops.size (w.tape w.drawn (.order s.fr.fn id)) (Array.replicate ops.size false) σ a { w with drawn := w.drawn + 1 } (by simp)
      (by unfold left; exact Nat.le_trans List.countP_le_length (by simp)) (fun m hm h1 => by rw [hlisted m hm] at h1; cases h1) (hmid.congr fun m hm => hlisted m hm)
    have hfr := hinv.fr
    refine ⟨τ, ro, a', .inRegion ops [] :: kt, cs, w', ?_, ⟨⟨?_, ?_, fun _ => ?_, ?_⟩, ?_, h4.congr fun x => ?_, Nat.le_trans h.big h5.size, ?_⟩, h5.congr (fun _ => rfl) fun x => ?_⟩
    · have e1 : mkF sN.fr ro a' (.inRegion ops [] :: kt) = (bF s.fr.fn ro).atR a' (.inRegion ops [] :: kt) := by rw [hfr]; exact mkF_run hret
      rw [e1, mkF_run hret]
      refine .head stepR_region_draw ?_
      simp only [Region.schedule, hm, Bool.true_or, if_true]
      exact hst
    · rw [hfr]
      refine ⟨h3.1, fun t x hx => h3.2 t x ?_⟩
      rw [h2]
      have := hinv.tm t
      rw [← hx]; exact this.symm
    · rw [hfr, hdef]; exact h.fr.df.mono h5.sub
    · rw [hfr]
      have : ops.toList.drop ops.size = [] := by simp
      rw [this]
      have hreg := RI.inReg (σ := τ) ops ops.size [] this
      exact .cons hreg (hkt.mono h5.sub)
    · rw [hfr]; exact h.fr.rd.mono h5.sub
    · rw [hinv.cs]; exact h.cs.mono h5.sub
    · rw [h1]; exact hinv.hp x
    · rw [hinv.cs, hfr]
      have := botF_congr (f := s.fr) (f' := { s.fr with tm := sN.fr.tm, todo := .inReg ops ops.size (ops.toList.drop ops.size) :: K }) rfl rfl s.cs
      exact ⟨this.1.trans h.bot.1, this.2.trans h.bot.2⟩
    · rw [h1]; exact hinv.hp x

/-- **A RUN OF THE ABSTRACT MACHINE IS A RUN OF THE MODEL.** -/
theorem run_ok (hN : NoNum P) (hX : XOk P X) (hm : P.follows .mixedOrders = true) : ∀ n, RunOk P G (run P G X n) := by
  intro n
  induction n with
  | zero => intro s v s' h; simp [run] at h
  | succ n ih =>
    have next : ∀ {s s1 : St} {v : AV} {s' : St}, run P G X n s1 = some (v, s') → Low s.hp s.nx → Keeps s s1 →
        (∀ (B : Nat) (σ : Sg) (rd : Option Nat) (fn : FuncId) (ro : Option Nat) (a : Act) (k : List Item) (cs cs0 : List Frame) (w : World), RSt B G σ s rd fn ro a k cs w → Fresh σ s.nx s1.nx → Goes P B G σ s rd fn (lone (mkF s.fr ro a k) (cs ++ cs0) w) cs0 w s1) →
        Keeps s s' ∧ ∀ (B : Nat) (σ : Sg) (rd : Option Nat) (fn : FuncId) (ro : Option Nat) (a : Act) (k : List Item) (cs cs0 : List Frame) (w : World), RSt B G σ s rd fn ro a k cs w → Fresh σ s.nx s'.nx → Ends P B G σ s rd fn (lone (mkF s.fr ro a k) (cs ++ cs0) w) cs0 w v s' := by
      intro s s1 v s' hr hl hk hgo
      obtain ⟨hk2, hends⟩ := ih s1 v s' hr hk.low
      refine ⟨hk.trans hk2, fun B σ rd fn ro a k cs cs0 w h hf => ?_⟩
      obtain ⟨τ, ro', a', k', cs', w', hst, hR, hext⟩ := hgo B σ rd fn ro a k cs cs0 w h fun i h1 h2 => hf i h1 (Nat.lt_of_lt_of_le h2 hk2.le)
      have hf' : Fresh τ s1.nx s'.nx := fun i h1 h2 => by
        cases ht : τ i with
        | none => rfl
        | some L =>
          rcases hext.dom i L ht with e | ⟨_, e⟩
          · rw [hf i (Nat.le_trans hk.le h1) h2] at e; cases e
          · omega
      obtain ⟨υ, w2, u, g1, g2, g3, g4, g5⟩ := hends B τ rd fn ro' a' k' cs' cs0 w' hR hf'
      exact ⟨υ, w2, u, g1, g2, hext.trans g3, fun c cs2 e => hst.trans (g4 c cs2 e), fun e => let ⟨fr, k1, k2, k3⟩ := g5 e; ⟨fr, hst.trans k1, k2, k3⟩⟩
    intro s v s' h hl
    simp only [run] at h
    have hkp := stp_keeps (P := P) (G := G) (X := X) hl
    have hok := fun (B : Nat) (σ : Sg) (rd : Option Nat) (fn : FuncId) (ro : Option Nat) (a : Act) (k : List Item) (cs cs0 : List Frame) (w : World) (hR : RSt B G σ s rd fn ro a k cs w) => stp_ok (cs0 := cs0) hN hX hR
    split at h
    · rename_i s1 hs1
      rw [hs1] at hkp
      refine next h hl hkp fun B σ rd fn ro a k cs cs0 w hR hf => ?_
      have := hok B σ rd fn ro a k cs cs0 w hR
      rw [hs1] at this
      exact this hf
    · rename_i v' s1 hs1
      simp only [Option.some.injEq, Prod.mk.injEq] at h
      obtain ⟨rfl, rfl⟩ := h
      rw [hs1] at hkp
      refine ⟨hkp, fun B σ rd fn ro a k cs cs0 w hR hf => ?_⟩
      have := hok B σ rd fn ro a k cs cs0 w hR
      rw [hs1] at this
      exact this hf
    · rename_i ops k0 hs1
      rcases cond_eq_some h with ⟨hb, h'⟩ | ⟨_, h'⟩
      · split at h'
        · rename_i s1 hd
          obtain ⟨hk1, hgo⟩ := region_ok ih hN hX hm hs1 hb hd hl
          exact next h' hl hk1 hgo
        · cases h'
      · cases h'
    · cases h
end
end Go.Ex
