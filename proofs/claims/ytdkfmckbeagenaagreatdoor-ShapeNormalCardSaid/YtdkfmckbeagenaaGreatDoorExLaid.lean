/-
  The abstract machine: a run of it is a run of the model.
 The abstract machine: a closed call.
 The abstract machine: package-level variables that a row lists.
-/
import Derived.Test.YtdkfmckbeagenaaGreatDoorExDraw2
import Derived.Test.YtdkfmckbeagenaaGreatDoorExJoin
import Derived.Lib.LaidTab
set_option linter.unusedVariables false
set_option linter.unusedSimpArgs false
namespace Go.Ex

noncomputable def dstOf (ops : Array Oper) (m : Nat) : Option Tmp := (ops[m]?).bind (·.dst)
noncomputable def bitsOf (ops : Array Oper) (m : Nat) : Nat := (Region.before ops).getD m 0
structure DInv (P : Program) (G : Nat) (ops : Array Oper) (K : List AI) (s0 : St) (i : Nat) (recs : List Rec) (s : St) (W : Nat → Ent) : Prop where
 facts : Facts s0.hp s0.fr.tm ops (bitsOf ops) W i
 exec : ∀ (k : Nat) (o : Oper), k < i → ops[k]? = some o → ∀ B, ExecOk P B G ops s0.fr.sz (tmD s0.fr.tm W (dstOf ops) allD k) k o (W k)
 nxs : ∀ k, k < i → s0.nx ≤ (W k).nx ∧ (W k).nx ≤ (W k).nx' ∧ (W k).nx' ≤ s.nx
 nxd : ∀ j k, j < k → k < i → (W j).nx' ≤ (W k).nx
 dsts : ∀ (k : Nat) (o : Oper) (d : Tmp), k < i → ops[k]? = some o → o.dst = some d → d < s0.fr.sz
 recs1 : ∀ r, r ∈ recs → r.i < i ∧ r = ⟨r.i, (W r.i).ft, (W r.i).nx, (W r.i).names⟩
 recs2 : ∀ k, k < i → ∃ r, r ∈ recs ∧ r.i = k
 hp : ∀ x, s.hp.get x = hpD s0.hp W allD i x
 tm : ∀ t, s.fr.tm.get t = tmD s0.fr.tm W (dstOf ops) allD i t
 fr : s.fr = { s0.fr with tm := s.fr.tm, todo := .inReg ops i (ops.toList.drop i) :: K }
 cs : s.cs = s0.cs
 keeps : Keeps s0 s
section
variable {Κ : List Item} {P : Program} {G : Nat} {X : FuncId → Option ExtK} {ops : Array Oper} {K : List AI} {s0 : St}

theorem dinv_step {i : Nat} {recs recs' : List Rec} {s s' : St} {W : Nat → Ent} {o : Oper} {e : Ent} (h : DInv P G ops K s0 i recs s W) (ho : ops[i]? = some o)
  (hd : Did P G ops i recs (looseA (bitsOf ops i) recs) s o recs' s' e) : DInv P G ops K s0 (i + 1) recs' s' (fun k => if k = i then e else W k) := by
 have hWlt : ∀ k, k < i → (if k = i then e else W k) = W k := fun k hk => if_neg (by omega)
 have hWi : (if i = i then e else W i) = e := if_pos rfl
 have hpc : ∀ k x, k ≤ i → hpD s0.hp (fun k => if k = i then e else W k) allD k x = hpD s0.hp W allD k x := fun k x hk => hpD_congr x k fun j hj => ⟨if_neg (by omega), rfl⟩
 have tmc : ∀ k t, k ≤ i → tmD s0.fr.tm (fun k => if k = i then e else W k) (dstOf ops) allD k t = tmD s0.fr.tm W (dstOf ops) allD k t := fun k t hk => tmD_congr t k fun j hj => ⟨if_neg (by omega), rfl⟩
 have hfr := h.fr
 have hsz : s.fr.sz = s0.fr.sz := by rw [hfr]
 have htodo : s.fr.todo = .inReg ops i (ops.toList.drop i) :: K := by rw [hfr]
 have hdrop : ops.toList.drop i = o :: ops.toList.drop (i + 1) := by
  have hi : i < ops.size := (Array.getElem?_eq_some_iff.1 ho).1
  have hv : ops.toList[i]'(by simpa using hi) = o := by have := (Array.getElem?_eq_some_iff.1 ho).2; simpa using this
  rw [List.drop_eq_getElem_cons (by simpa using hi), hv]
 have hfin := hd.fr
 have hdst : dstOf ops i = o.dst := by simp [dstOf, ho]
 have hfr' : (∀ d, o.dst = some d → d < s.fr.sz) ∧ s'.fr = { s.fr with tm := (match o.dst with | some d => s.fr.tm.set d (some e.v) | none => s.fr.tm), todo := .inReg ops (i + 1) (ops.toList.drop (i + 1)) :: K } := by
  unfold finishA at hfin
  rw [htodo, hdrop] at hfin
  simp only at hfin
  cases hq : o.dst with
  | none =>
   rw [hq] at hfin
   simp only [Option.some.injEq] at hfin
   exact ⟨fun d hd => (by cases hd), hfin.symm⟩
  | some d =>
   rw [hq] at hfin
   simp only at hfin
   rcases cond_eq_some hfin with ⟨hb, h'⟩ | ⟨_, h'⟩
   ·simp only [Option.some.injEq] at h'
    exact ⟨fun d' hd' => by cases hd'; exact blt_iff.1 hb, h'.symm⟩
   ·cases h'
 have hbes := besideA_iff hd.beside
 have hnx := hd.nx
 have hnx' := hd.nx'
 refine ⟨⟨?_, ?_, ?_⟩, ?_, ?_, ?_, ?_, ?_, ?_, ?_, ?_, ?_, hd.cs.trans h.cs, h.keeps.trans hd.keeps⟩
 ·intro k hk x b hx
  by_cases e' : k = i
  ·subst e'
   rw [hWi] at hx ⊢
   obtain ⟨h1, h2, h3⟩ := hd.view x b hx
   rw [hpc k x (Nat.le_refl _), ← h.hp]
   refine ⟨h1, fun j hj hb => ?_, h3⟩
   rw [hWlt j hj]
   obtain ⟨r, hr, hrj⟩ := h.recs2 j hj
   obtain ⟨_, hre⟩ := h.recs1 r hr
   intro hm
   refine h2 (logsOf_iff.2 ⟨r, looseA_iff.2 ⟨hr, by rw [hrj]; exact hb⟩, ?_⟩)
   rw [hre, hrj]; exact hm
  ·have hk' : k < i := by omega
   rw [if_neg e'] at hx ⊢
   obtain ⟨h1, h2, h3⟩ := h.facts.view k hk' x b hx
   rw [hpc k x (by omega)]
   refine ⟨h1, fun j hj hb => ?_, h3⟩
   rw [hWlt j (by omega)]; exact h2 j hj hb
 ·intro j k hjk hk hb
  by_cases e' : k = i
  ·subst e'
   rw [hWi, hWlt j hjk]
   obtain ⟨r, hr, hrj⟩ := h.recs2 j hjk
   obtain ⟨_, hre⟩ := h.recs1 r hr
   obtain ⟨h1, h2, x, hx, hap⟩ := hbes r (looseA_iff.2 ⟨hr, by rw [hrj]; exact hb⟩)
   rw [hre, hrj] at h1 h2
   refine ⟨fun y hy => ⟨h2 y hy, ?_⟩, fun x' y' hx' hy' => ?_⟩
   ·cases hft : (W j).ft with
    | none => rw [hft] at h1; exact h1 y hy
    | some l => rw [hft] at h1; exact h1 y hy
   ·rw [hrj] at hx
    rw [hx'] at hx; cases hx
    rw [ho] at hy'; cases hy'
    exact hap
  ·rw [if_neg e', hWlt j (by omega)]
   exact h.facts.beside j k hjk (by omega) hb
 ·intro k hk x b hx
  rw [hpc k x (by omega)] at hx
  by_cases e' : k = i
  ·subst e'
   rw [hWi, hnx]
   rw [← h.hp] at hx
   exact h.keeps.low.lt hx
  ·rw [if_neg e']; exact h.facts.low k (by omega) x b hx
 ·intro k o' hk ho' B
  by_cases e' : k = i
  ·subst e'
   rw [ho] at ho'; cases ho'
   rw [hWi]
   have := hd.exec B
   rw [hsz] at this
   have ht : s.fr.tm.get = tmD s0.fr.tm (fun j => if j = k then e else W j) (dstOf ops) allD k := funext fun t => by rw [h.tm, tmc k t (Nat.le_refl _)]
   rw [ht] at this
   exact this
  ·rw [if_neg e']
   have := h.exec k o' (by omega) ho' B
   have ht : tmD s0.fr.tm (fun j => if j = i then e else W j) (dstOf ops) allD k = tmD s0.fr.tm W (dstOf ops) allD k := funext fun t => tmc k t (by omega)
   rw [ht]; exact this
 ·intro k hk
  have hle := hd.keeps.le
  have hle0 := h.keeps.le
  by_cases e' : k = i
  ·subst e'; rw [hWi, hnx, hnx']; exact ⟨hle0, hle, Nat.le_refl _⟩
  ·rw [if_neg e']; obtain ⟨h1, h2, h3⟩ := h.nxs k (by omega); exact ⟨h1, h2, Nat.le_trans h3 hle⟩
 ·intro j k hjk hk
  by_cases e' : k = i
  ·subst e'; rw [hWi, hWlt j hjk, hnx]; exact (h.nxs j hjk).2.2
  ·rw [if_neg e', hWlt j (by omega)]; exact h.nxd j k hjk (by omega)
 ·intro k o' d hk ho' hd'
  by_cases e' : k = i
  ·subst e'; rw [ho] at ho'; cases ho'; rw [← hsz]; exact hfr'.1 d hd'
  ·exact h.dsts k o' d (by omega) ho' hd'
 ·intro r hr
  rw [hd.recs] at hr
  rcases List.mem_cons.1 hr with rfl | hr
  ·exact ⟨Nat.lt_succ_self _, by simp [hnx]⟩
  ·obtain ⟨h1, h2⟩ := h.recs1 r hr
   exact ⟨by omega, by rw [hWlt r.i h1]; exact h2⟩
 ·intro k hk
  rw [hd.recs]
  by_cases e' : k = i
  ·subst e'; exact ⟨⟨k, e.ft, s.nx, e.names⟩, by simp, rfl⟩
  ·obtain ⟨r, hr, hrk⟩ := h.recs2 k (by omega); exact ⟨r, by simp [hr], hrk⟩
 ·intro x
  rw [hd.hp, app_get]
  simp only [hpD, allD, cond_true, if_true]
  rw [hpc i x (Nat.le_refl _), ← h.hp x]
  cases look e.dl x <;> rfl
 ·intro t
  rw [hfr'.2]
  simp only [tmD, allD, cond_true, if_true, hdst]
  have h2 := h.tm t
  rw [tmc i t (Nat.le_refl _)]
  cases hq : o.dst with
  | none => simp [h2]
  | some d =>
   simp only [Option.some.injEq, Tr.get_set]
   by_cases e' : t = d
   ·subst e'; simp
   ·simp [e', Ne.symm e', h2]
 ·rw [hfr'.2, hfr]
theorem drawA_inv {runC : St → Option (AV × St)} (hrun : RunOk P G runC) (hN : NoNum P) (hX : XOk P X) : ∀ (rest : List Oper) (i : Nat) (recs : List Rec) (s sN : St) (W : Nat → Ent), ops.toList.drop i = rest → i ≤ ops.size → DInv P G ops K s0 i recs s W →
  drawA P G X runC ops (Region.before ops) rest i recs s = some sN → ∃ recs' W', DInv P G ops K s0 ops.size recs' sN W' := by
 intro rest
 induction rest with
 | nil =>
  intro i recs s sN W hd hi h hr
  simp only [drawA, Option.some.injEq] at hr; subst hr
  have : ops.size ≤ i := by
   have := List.drop_eq_nil_iff.1 hd
   simpa using this
  have : i = ops.size := by omega
  subst this
  exact ⟨recs, W, h⟩
 | cons o rest ih =>
  intro i recs s sN W hd hi h hr
  obtain ⟨hop, hdrop⟩ := drop_head hd
  simp only [drawA] at hr
  split at hr
  ·rename_i recs' s' hone
   obtain ⟨e, hdid⟩ := drawOne_did hrun hN hX hone h.keeps.low hop
   have hlt : i < ops.size := (Array.getElem?_eq_some_iff.1 hop).1
   exact ih (i + 1) recs' s' sN _ hdrop (by omega) (dinv_step h hop hdid) hr
  ·cases hr
theorem stp_draw {s : St} {k : List AI} (h : stp P G X s = .draw ops k) : s.fr.ret = false ∧ ∃ id, s.fr.todo = .code (.region id ops true) :: k := by
 have hputV : ∀ {s : St} {x : AV}, putV s x ≠ .draw ops k := fun {s x} e => by unfold putV at e; split at e <;> cases e
 have hleave : ∀ {s : St} {j : Option Code}, leaveA s j ≠ .draw ops k := fun {s j} e => by
  unfold leaveA at e
  split at e
  ·split at e <;> cases e
  ·split at e
   ·dsimp only at e
    split at e
    ·split at e <;> cases e
    ·cases e
   ·cases e
 unfold stp at h
 split at h
 ·unfold retA at h
  repeat' split at h
  all_goals cases h
 ·rename_i hret
  refine ⟨hret, ?_⟩
  unfold todoA at h
  split at h
  ·split at h
   ·unfold operA at h
    split at h
    ·exact absurd h hputV
    ·split at h
     ·split at h
      ·unfold callA at h
       repeat' split at h
       all_goals first
        | exact absurd h hputV
        | cases h
      ·cases h
     ·split at h <;> cases h
     ·cases h
   ·exact absurd h hputV
   ·cases h
  ·cases h
  ·rename_i c k' htodo
   cases c with
   | region id ops' d =>
    cases d with
    | true =>
     simp only [codeA, Out.draw.injEq] at h
     obtain ⟨rfl, rfl⟩ := h
     exact ⟨id, htodo⟩
    | false => cases h
   | cond c x y =>
    unfold codeA at h; dsimp only at h
    split at h <;> cases h
   | exit id =>
    unfold codeA at h; dsimp only at h
    split at h
    ·cases h
    ·cases hq : noStop k' with
     | true => rw [hq] at h; exact absurd h (hleave (j := some (.exit id)))
     | false => rw [hq] at h; cases h
   | goto l =>
    unfold codeA at h; dsimp only at h
    split at h
    ·cases h
    ·cases hq : noStop k' with
     | true => rw [hq] at h; exact absurd h (hleave (j := some (.goto l)))
     | false => rw [hq] at h; cases h
   | ret => exact absurd (show leaveA s (some .ret) = _ from h) hleave
   | rangeFunc g ps a b =>
    simp only [codeA] at h
    unfold rangeA at h
    repeat' split at h
    all_goals cases h
   | _ => cases h
  ·cases h
  ·cases h
  ·cases h
  ·unfold begA at h
   repeat' split at h
   all_goals cases h
  ·unfold endRFA at h
   repeat' split at h
   all_goals cases h
  ·cases h
  ·unfold stopA at h
   split at h <;> cases h
  ·exact absurd h hleave
theorem region_ok {runC : St → Option (AV × St)} (hrun : RunOk P G runC) (hN : NoNum P) (hX : XOk P X) (hm : P.follows .mixedOrders = true) {s sN : St} (hstp : stp P G X s = .draw ops K) (hback : backA ops 0 ops.toList = true)
  (hdraw : drawA P G X runC ops (Region.before ops) ops.toList 0 [] { s with fr := { s.fr with todo := .inReg ops 0 ops.toList :: K } } = some sN) (hl : Low s.hp s.nx) :
  Keeps s sN ∧ ∀ (B : Nat) (σ : Sg) (rd : Option Nat) (fn : FuncId) (ro : Option Nat) (a : Act) (k : List Item) (cs cs0 : List Frame) (w : World), RSt Κ B G σ s rd fn ro a k cs w → Fresh σ s.nx sN.nx → Goes Κ P B G σ s rd fn (lone (mkF s.fr ro a k) (cs ++ cs0) w) cs0 w sN := by
 obtain ⟨hret, id, htodo⟩ := stp_draw hstp
 obtain ⟨recs', W, hinv⟩ := drawA_inv (K := K) (s0 := { s with fr := { s.fr with todo := .inReg ops 0 ops.toList :: K } }) hrun hN hX ops.toList 0 [] _ sN (fun _ => ⟨.lf, [], .junk, 0, 0, none⟩) (by simp) (Nat.zero_le _)
  ⟨⟨fun k hk => by omega, fun j k _ hk => by omega, fun k hk => by omega⟩, fun k o hk => by omega, fun k hk => by omega, fun j k _ hk => by omega, fun k o d hk => by omega, fun r hr => (by cases hr), fun k hk => by omega, fun _ => rfl, fun _ => rfl, rfl, rfl, .of hl rfl rfl rfl rfl⟩ hdraw
 have hkeep : Keeps s sN := Keeps.trans (s' := { s with fr := { s.fr with todo := .inReg ops 0 ops.toList :: K } }) (.of hl rfl rfl rfl rfl) hinv.keeps
 refine ⟨hkeep, ?_⟩
 intro B σ rd fn ro a k cs cs0 w h hfresh
 have htd := h.fr.td hret
 rw [htodo] at htd
 cases htd with
 | cons hi hkt =>
  rename_i it kt
  cases hi
  have hR : Region' P B G s.hp s.fr.tm ops (bitsOf ops) W s.fr.sz s.nx sN.nx :=
   ⟨hinv.facts, fun k o ho => hinv.exec k o (Array.getElem?_eq_some_iff.1 ho).1 ho B, hinv.nxs, hinv.nxd, fun k o d ho => hinv.dsts k o d (Array.getElem?_eq_some_iff.1 ho).1 ho⟩
  have hmid : Mid B G s.hp s.fr.tm ops W s.fr.sz s.nx sN.nx σ w (fun _ => false) σ a { w with drawn := w.drawn + 1 } := by
   refine ⟨⟨s.hp, s.fr.tm, fun x => ?_, fun t => ?_, h.fr.tm, h.rel.drawn _, (Ext.drawn σ s.hp s.nx w _).widen (Nat.le_refl _) hkeep.le⟩, fun j hj _ => ?_⟩
   ·generalize ops.size = n
    induction n with
    | zero => rfl
    | succ n ih => simpa [hpD] using ih
   ·generalize ops.size = n
    induction n with
    | zero => rfl
    | succ n ih => simpa [tmD] using ih
   ·intro x h1 h2
    obtain ⟨g1, g2, g3⟩ := hinv.nxs j hj
    exact hfresh x (Nat.le_trans g1 h1) (Nat.lt_of_lt_of_le h2 g3)
  have hlisted : ∀ m, m < ops.size → (Array.replicate ops.size false).getD m true = false := fun m hm => by simp [hm]
  obtain ⟨τ, a', w', hst, ⟨⟨H, T, h1, h2, h3, h4, h5⟩, _⟩, hdef⟩ := order_ok hR h.big (back_of hback) (before_spec ops) (bF s.fr.fn ro) kt (cs ++ cs0) ops.size (w.tape w.drawn (.order s.fr.fn id)) (Array.replicate ops.size false) σ a { w with drawn := w.drawn + 1 } (by simp)
   (by unfold left; exact Nat.le_trans List.countP_le_length (by simp)) (fun m hm h1 => by rw [hlisted m hm] at h1; cases h1) (hmid.congr fun m hm => hlisted m hm)
  have hfr := hinv.fr
  refine ⟨τ, ro, a', .inRegion ops [] :: kt, cs, w', ?_, ⟨⟨?_, ?_, fun _ => ?_, ?_⟩, ?_, h4.congr fun x => ?_, Nat.le_trans h.big h5.size, ?_⟩, h5.congr (fun _ => rfl) fun x => ?_⟩
  ·have e1 : mkF sN.fr ro a' (.inRegion ops [] :: kt) = (bF s.fr.fn ro).atR a' (.inRegion ops [] :: kt) := by rw [hfr]; exact mkF_run hret
   rw [e1, mkF_run hret]
   refine .head stepR_region_draw ?_
   simp only [Region.schedule, hm, Bool.true_or, if_true]
   exact hst
  ·rw [hfr]
   refine ⟨h3.1, fun t x hx => h3.2 t x ?_⟩
   rw [h2]
   have := hinv.tm t
   rw [← hx]; exact this.symm
  ·rw [hfr, hdef]; exact h.fr.df.mono h5.sub
  ·rw [hfr]
   have : ops.toList.drop ops.size = [] := by simp
   rw [this]
   have hreg := RI.inReg (σ := τ) ops ops.size [] this
   exact .cons hreg (hkt.mono h5.sub)
  ·rw [hfr]; exact h.fr.rd.mono h5.sub
  ·rw [hinv.cs]; exact h.cs.mono h5.sub
  ·rw [h1]; exact hinv.hp x
  ·rw [hinv.cs, hfr]
   have := botF_congr (f := s.fr) (f' := { s.fr with tm := sN.fr.tm, todo := .inReg ops ops.size (ops.toList.drop ops.size) :: K }) rfl rfl s.cs
   exact ⟨this.1.trans h.bot.1, this.2.trans h.bot.2⟩
  ·rw [h1]; exact hinv.hp x
theorem opsF_nil (sz lb k : Nat) (tm : Tr AV) (hp : Tr Blk) (nx : Nat) (wl : List Nat) : opsF P G sz lb [] k tm hp nx wl = (k, [], tm, hp, nx, wl) := rfl
theorem opsF_cons (sz lb k : Nat) (o : Oper) (rest : List Oper) (tm : Tr AV) (hp : Tr Blk) (nx : Nat) (wl : List Nat) : opsF P G sz lb (o :: rest) k tm hp nx wl = (match o.guard with
   | some _ => (k, o :: rest, tm, hp, nx, wl)
   | none => match aop P G tm hp nx o with
    | none => (k, o :: rest, tm, hp, nx, wl)
    | some r => match o.dst with
     | some d => bif Nat.blt d sz then opsF P G sz lb rest (k + 1) (tm.set d (some r.v)) (app r.dl hp) r.nx (logs lb r.dl wl) else (k, o :: rest, tm, hp, nx, wl)
     | none => opsF P G sz lb rest (k + 1) tm (app r.dl hp) r.nx (logs lb r.dl wl)) := by
 show Option.rec (motive := fun _ => Res) (oA (aop P G tm hp nx o) o.dst sz lb k tm hp wl (opsF P G sz lb rest) (k, o :: rest, tm, hp, nx, wl)) (fun _ => (k, o :: rest, tm, hp, nx, wl)) o.guard = _
 cases o.guard with
 | some g => rfl
 | none =>
  show oA (aop P G tm hp nx o) o.dst sz lb k tm hp wl (opsF P G sz lb rest) (k, o :: rest, tm, hp, nx, wl) = _
  cases aop P G tm hp nx o with
  | none => rfl
  | some r =>
   obtain ⟨v, dl, nx'⟩ := r
   cases dl <;> (cases o.dst <;> rfl)
theorem codeF_eq (fn : FuncId) (sz : Nat) (tm : Tr AV) (df : List Nat) (rd : Option Nat) (cs : List Fr) (hp : Tr Blk) (nx lb : Nat) (wl : List Nat) (c : Code) (k : List AI) :
  codeF P G fn sz tm df rd cs hp nx lb wl c k = codeA P G ⟨⟨fn, sz, tm, .code c :: k, df, rd, false⟩, cs, hp, nx, lb, wl⟩ c k := by
 cases c with
 | region id ops d => cases d <;> rfl
 | ret => cases rd <;> rfl
 | cond c a b =>
  show cCond (ev G tm c) a b k fn sz tm df rd cs hp nx lb wl = _
  simp only [cCond, codeA]
  cases ev G tm c with
  | bool t => cases t <;> rfl
  | _ => rfl
 | exit id =>
  show cExit id (exitA id k) k fn sz tm df rd cs hp nx lb wl = _
  simp only [codeA]
  cases exitA id k <;> rfl
 | _ => rfl
theorem putF0_eq (fn : FuncId) (sz : Nat) (tm : Tr AV) (todo : List AI) (df : List Nat) (rd : Option Nat) (ret : Bool) (cs : List Fr) (hp : Tr Blk) (nx lb : Nat) (wl : List Nat) (v : AV) :
  putF0 fn sz tm todo df rd ret cs hp nx lb wl v = putV ⟨⟨fn, sz, tm, todo, df, rd, ret⟩, cs, hp, nx, lb, wl⟩ v := by
 unfold putF0 putV
 rw [finF_eq]
 simp only
 cases finF sz tm todo v <;> rfl
theorem putR_eq (fn : FuncId) (sz : Nat) (tm : Tr AV) (todo : List AI) (df : List Nat) (rd : Option Nat) (cs : List Fr) (hp : Tr Blk) (nx lb : Nat) (wl : List Nat) (r : R) :
  (match r with
   | ⟨v, [], nx'⟩ => putF0 fn sz tm todo df rd false cs hp nx' lb wl v
   | ⟨v, e :: dl, nx'⟩ => putF0 fn sz tm todo df rd false cs (app (e :: dl) hp) nx' lb (logs lb (e :: dl) wl) v) =
  putV ((⟨⟨fn, sz, tm, todo, df, rd, false⟩, cs, hp, nx, lb, wl⟩ : St).turn r.dl r.nx) r.v := by
 obtain ⟨v, dl, nx'⟩ := r
 cases dl with
 | nil => exact putF0_eq ..
 | cons e dl => exact putF0_eq ..
theorem regF_eq (fn : FuncId) (sz : Nat) (tm : Tr AV) (ops : Array Oper) (k : Nat) (o : Oper) (rest : List Oper) (t : List AI) (df : List Nat) (rd : Option Nat) (cs : List Fr) (hp : Tr Blk) (nx lb : Nat) (wl : List Nat) :
  regF P G X fn sz tm ops k o rest t df rd cs hp nx lb wl = todoA P G X ⟨⟨fn, sz, tm, .inReg ops k (o :: rest) :: t, df, rd, false⟩, cs, hp, nx, lb, wl⟩ := by
 unfold regF todoA
 simp only
 cases wantedA tm ops o with
 | none => rfl
 | some b =>
  cases b with
  | false => exact putF0_eq ..
  | true =>
   unfold operA
   simp only
   cases aop P G tm hp nx o with
   | some r =>
    have := putR_eq fn sz tm (.inReg ops k (o :: rest) :: t) df rd cs hp nx lb wl r
    obtain ⟨v, dl, nx'⟩ := r
    cases dl with
    | nil => exact this
    | cons e dl => exact this
   | none =>
    simp only
    cases o.op <;> try rfl
    rename_i c
    simp only
    cases calleeA P G tm c with
    | none => rfl
    | some ck =>
     cases ck with
     | func g args =>
      simp only [callA]
      cases extO G X hp nx g args with
      | none => cases enterA P g args <;> rfl
      | some r =>
       have := putR_eq fn sz tm (.inReg ops k (o :: rest) :: t) df rd cs hp nx lb wl r
       obtain ⟨v, dl, nx'⟩ := r
       cases dl with
       | nil => exact this
       | cons e dl => exact this
     | yield id args =>
      simp only [callA]
theorem retF_eq (fn : FuncId) (sz : Nat) (tm : Tr AV) (todo : List AI) (df : List Nat) (rd : Option Nat) (cs : List Fr) (hp : Tr Blk) (nx lb : Nat) (wl : List Nat) :
  retF P fn sz tm todo df rd cs hp nx lb wl = retA P ⟨⟨fn, sz, tm, todo, df, rd, true⟩, cs, hp, nx, lb, wl⟩ := by
 cases df with
 | cons d ds => rfl
 | nil =>
  unfold retF retA
  simp only
  cases P.funcs[fn]? with
  | none => rfl
  | some f =>
   simp only
   cases resultsA P hp f tm with
   | none => rfl
   | some v =>
    cases cs with
    | nil => rfl
    | cons c cs =>
     obtain ⟨cfn, csz, ctm, ctodo, cdf, crd, cret⟩ := c
     simp only
     unfold putF0
     rw [finF_eq]
     simp only
     cases finF csz ctm ctodo v <;> rfl
theorem stpF_eq (s : St) : stpF P G X s = stp P G X s := by
 obtain ⟨⟨fn, sz, tm, todo, df, rd, ret⟩, cs, hp, nx, lb, wl⟩ := s
 cases ret with
 | true => exact retF_eq fn sz tm todo df rd cs hp nx lb wl
 | false => cases todo with
  | nil => rfl
  | cons a t =>
   cases a with
   | code c => exact codeF_eq fn sz tm df rd cs hp nx lb wl c t
   | inReg ops k r => cases r with
    | nil => rfl
    | cons o r => exact regF_eq fn sz tm ops k o r t df rd cs hp nx lb wl
   | _ => rfl
theorem fastS_eq (s : St) : fastS P G s = (match s.fr.ret with
 | true => s
 | false => match s.fr.todo with
  | .inReg ops k rest :: t => match opsF P G s.fr.sz s.lb rest k s.fr.tm s.hp s.nx s.wl with
   | (k', rest', tm, hp, nx, wl) => { s with fr := { s.fr with tm, todo := .inReg ops k' rest' :: t }, hp, nx, wl }
  | _ => s) := by
 obtain ⟨⟨fn, sz, tm, todo, df, rd, ret⟩, cs, hp, nx, lb, wl⟩ := s
 cases ret with
 | true => cases todo with
  | nil => rfl
  | cons a t => cases a <;> rfl
 | false => cases todo with
  | nil => rfl
  | cons a t => cases a <;> rfl
theorem runBody_eq (J : FuncId → Bool) (rn : St → Option (AV × St)) (s : St) : runBody P G X J rn s = (match stpF P G X s with
 | .go s' => bif J s'.fr.fn && Nat.blt s.cs.length s'.cs.length then
   match s'.cs with
   | c :: cs => match rn { s' with cs := [] } with
    | some (v, s2) => bif isStopV v then none else match finishA c v with
     | some c' => rn { s2 with fr := c', cs }
     | none => none
    | none => none
   | [] => none
  else rn s'
 | .stop s' => some (.stopv, s')
 | .pick l => bif cutJ J s then (match cutK P G X rn s with
   | some s' => rn s'
   | none => none) else joined (fun r => match putV ((apartS s).turn r.dl r.nx) r.v with
   | .go s' => noStopR (rn s')
   | _ => none) s l
 | .done v s' => some (v, s')
 | .draw ops k => bif backA ops 0 ops.toList then
   match drawA P G X rn ops (Region.before ops) ops.toList 0 [] { s with fr := { s.fr with todo := .inReg ops 0 ops.toList :: k } } with
   | some s' => rn s'
   | none => none
  else none
 | .fail _ => none) := by
 unfold runBody
 cases stpF P G X s with
 | go s' =>
  show goR s' J rn (goK s' P G X J rn s) = _
  unfold goR goK
  dsimp only
  cases J s'.fr.fn with
  | false => rfl
  | true => rfl
 | _ => rfl
theorem fin_next {s s1 s' : St} {v : AV} (hle : s.nx ≤ s1.nx) (hle2 : s1.nx ≤ s'.nx)
  (hends : ∀ (B : Nat) (σ : Sg) (rd : Option Nat) (fn : FuncId) (ro : Option Nat) (a : Act) (k : List Item) (cs cs0 : List Frame) (w : World), RSt Κ B G σ s1 rd fn ro a k cs w → Fresh σ s1.nx s'.nx → Fin' Κ P B G σ s1 rd fn (lone (mkF s1.fr ro a k) (cs ++ cs0) w) cs0 w v s')
  (B : Nat) (σ : Sg) (rd : Option Nat) (fn : FuncId) (cs0 : List Frame) (w : World) (m : Machine) (hgo : Fresh σ s.nx s1.nx → Goes Κ P B G σ s rd fn m cs0 w s1) (hf : Fresh σ s.nx s'.nx) : Fin' Κ P B G σ s rd fn m cs0 w v s' := by
 obtain ⟨τ, ro', a', k', cs', w', hst, hR, hext⟩ := hgo fun i h1 h2 => hf i h1 (Nat.lt_of_lt_of_le h2 hle2)
 have hf' : Fresh τ s1.nx s'.nx := fun i h1 h2 => by
  cases ht : τ i with
  | none => rfl
  | some L =>
   rcases hext.dom i L ht with e | ⟨_, e⟩
   ·rw [hf i (Nat.le_trans hle h1) h2] at e; cases e
   ·omega
 obtain ⟨f1, f2⟩ := hends B τ rd fn ro' a' k' cs' cs0 w' hR hf'
 refine ⟨fun hv => ?_, fun hv => ?_⟩
 ·obtain ⟨⟨υ, ro2, a2, k2, cs2, w2, st2, R2, e2⟩, g2, g3, g4⟩ := f1 hv
  exact ⟨⟨υ, ro2, a2, k2, cs2, w2, hst.trans st2, R2, hext.trans e2⟩, g2, g3, g4⟩
 ·obtain ⟨υ, w2, u, g1, g2, g3, g4, g5⟩ := f2 hv
  exact ⟨υ, w2, u, g1, g2, hext.trans g3, fun c cs2 e => hst.trans (g4 c cs2 e), fun e => let ⟨fr, k1, k2, k3⟩ := g5 e; ⟨fr, hst.trans k1, k2, k3⟩⟩
theorem cut_rk {σ : Sg} : ∀ {l : List AI} {lp : Bool} {pre post : List AI}, cutL l lp = some (pre, post) → ∀ {k : List Item}, RK Κ σ l k → ∃ kq, RK Κ σ post kq ∧ RK kq σ (pre ++ [.stop]) k := by
 intro l
 induction l with
 | nil => intro lp pre post h; cases h
 | cons x l ih =>
  intro lp pre post h k hk
  have h : cutI x lp l (cutL l) = some (pre, post) := h
  have key : ∀ {lp' : Bool} {x' : AI}, (match cutL l lp' with | some (p, q) => some (x' :: p, q) | none => none) = some (pre, post) → x = x' → ∃ kq, RK Κ σ post kq ∧ RK kq σ (pre ++ [.stop]) k := by
   intro lp' x' h e
   split at h
   ·rename_i p q hpq
    simp only [Option.some.injEq, Prod.mk.injEq] at h
    obtain ⟨rfl, rfl⟩ := h
    subst e
    cases hk with
    | cons hi ht =>
     obtain ⟨kq, h1, h2⟩ := ih hpq ht
     exact ⟨kq, h1, .cons hi h2⟩
    | stop => cases hpq
   ·cases h
  cases x with
  | inBlock id =>
   simp only [cutI] at h
   rcases cond_eq_some h with ⟨_, h'⟩ | ⟨_, h'⟩
   ·simp only [Option.some.injEq, Prod.mk.injEq] at h'
    obtain ⟨rfl, rfl⟩ := h'
    cases hk with
    | cons hi ht =>
     cases hi
     exact ⟨_, ht, .cons (.inBlock id) .stop⟩
   ·exact key h' rfl
  | inLoop c => exact key h rfl
  | inReg ops i r => exact key h rfl
  | inScope c => exact key h rfl
  | code c => exact key h rfl
  | _ => cases h
theorem listT_spec (tm : Tr AV) : ∀ n, (listT tm n).length = n ∧ ∀ i, i < n → (listT tm n)[i]? = some (slot tm i) := by
 intro n
 induction n with
 | zero => exact ⟨rfl, fun i h => by omega⟩
 | succ n ih =>
  have e : listT tm (n + 1) = listT tm n ++ [slot tm n] := rfl
  refine ⟨by rw [e]; simp [ih.1], fun i h => ?_⟩
  rw [e]
  by_cases hi : i < n
  ·rw [List.getElem?_append_left (by rw [ih.1]; exact hi)]; exact ih.2 i hi
  ·have : i = n := by omega
   subst this
   rw [List.getElem?_append_right (by rw [ih.1]; exact Nat.le_refl _), ih.1]; simp
theorem listT_ok {σ : Sg} {sz : Nat} {tm : Tr AV} {t : Array Value} (h : RT σ sz tm t) : Rv σ (.tup (listT tm sz)) (.tuple t) := by
 obtain ⟨h1, h2⟩ := listT_spec tm sz
 have := Rv.tup (σ := σ) (listT tm sz) t.toList (by rw [h1]; simpa using h.1.symm) fun i x v hx hv => by
  have hi : i < sz := by rw [← h1]; exact (List.getElem?_eq_some_iff.1 hx).1
  rw [h2 i hi] at hx
  simp only [Option.some.injEq] at hx; subst hx
  rw [slot_eq]
  split
  ·rename_i y hy
   obtain ⟨u, hu, hr⟩ := h.2 i y hy
   rw [Array.getElem?_toList, hu] at hv; cases hv; exact hr
  ·exact .junk _
 simpa using this
theorem ofT_ok {σ : Sg} {l : List AV} {t : Array Value} (h : Rv σ (.tup l) (.tuple t)) : RT σ l.length (ofT l) t := by
 obtain ⟨vs, hl, e⟩ := h.inv_tup
 simp only [Value.tuple.injEq] at e
 subst e
 refine ⟨by simp [hl.1], fun i x hx => ?_⟩
 unfold ofT at hx
 rw [putTmps_get] at hx
 split at hx
 ·obtain ⟨v, hv, hr⟩ := hl.get hx
  exact ⟨v, by simpa using hv, hr⟩
 ·rw [Tr.get_lf] at hx; cases hx
theorem sameD_iff : ∀ {l m : List Nat}, sameD l m = true → l = m := by
 intro l
 induction l with
 | nil => intro m h; cases m with
  | nil => rfl
  | cons _ _ => cases h
 | cons x l ih => intro m h; cases m with
  | nil => cases h
  | cons y m =>
   simp only [sameD] at h
   cases hq : Nat.beq x y with
   | true => rw [hq] at h; rw [beq_iff.1 hq, ih h]
   | false => rw [hq] at h; cases h
theorem isStopV_iff {v : AV} (h : isStopV v = true) : v = .stopv := by cases v <;> first | rfl | cases h
theorem rd_sub {σ τ : Sg} : ∀ {l : List Nat} {ds es : List Deferred}, RD σ l ds → (∀ i L, σ i = some L → τ i = some L) → RD τ l es → ds = es := by
 intro l
 induction l with
 | nil => intro ds es h _ k; cases h; cases k; rfl
 | cons x l ih =>
  intro ds es h hs k
  cases h with
  | cons h1 h2 =>
   cases k with
   | cons k1 k2 =>
    have := hs _ _ h1
    rw [k1] at this
    simp only [Option.some.injEq, Prod.mk.injEq] at this
    rw [this.1, ih h2 hs k2]
theorem cutK_ok (hN : NoNum P) (hX : XOk P X) {rn : St → Option (AV × St)} (ih : RunOk P G rn) {s sN : St} (h : cutK P G X rn s = some sN) (hl : Low s.hp s.nx) :
  Keeps s sN ∧ ∀ (B : Nat) (σ : Sg) (rd : Option Nat) (fn : FuncId) (ro : Option Nat) (a : Act) (k : List Item) (cs cs0 : List Frame) (w : World), RSt Κ B G σ s rd fn ro a k cs w → Fresh σ s.nx sN.nx → Goes Κ P B G σ s rd fn (lone (mkF s.fr ro a k) (cs ++ cs0) w) cs0 w sN := by
 unfold cutK at h
 rcases cond_eq_some h with ⟨_, h'⟩ | ⟨hret, h'⟩ <;> clear h
 ·cases h'
 split at h'
 ·rename_i pre post hcut
  rw [stpF_eq] at h'
  have hkp := stp_keeps (P := P) (G := G) (X := X) (s := cutS s pre) hl
  have hok := fun (Κ : List Item) (B : Nat) (σ : Sg) (rd : Option Nat) (fn : FuncId) (ro : Option Nat) (a : Act) (k : List Item) (cs cs0 : List Frame) (w : World) (hR : RSt Κ B G σ (cutS s pre) rd fn ro a k cs w) => stp_ok (cs0 := cs0) hN hX hR
  unfold cutR at h'
  split at h'
  ·rename_i l hs1
   rw [hs1] at hkp
   have hgood : ∀ r, r ∈ l → Good s.nx r := hkp
   unfold resume at h'
   split at h'
   ·rename_i l1 a1 hj
    rcases cond_eq_some h' with ⟨hlen, h⟩ | ⟨_, h⟩ <;> clear h'
    ·simp only [Option.some.injEq] at h; subst h
     have hlb : (apartS (cutS s pre)).nx ≤ (apartS (cutS s pre)).lb := (maxN_le _ _).1
     have hone : ∀ r, r ∈ l → ∀ s1, putV ((apartS (cutS s pre)).turn r.dl r.nx) r.v = .go s1 → Keeps (apartS (cutS s pre)) s1 := fun r hr s1 hs => by
      have := putV_keeps (x := r.v) (good_turn (s := apartS (cutS s pre)) hl (hgood r hr))
      rw [hs] at this; exact this
     obtain ⟨hk0, hall⟩ := joinAll_spec (s0 := apartS (cutS s pre)) hl hlb l _ _ hj fun r hr v a hfr => by
      split at hfr
      ·rename_i s1 hs
       have h1 := hone r hr s1 hs
       unfold stopR at hfr
       split at hfr
       ·rename_i a2 hrn
        rcases cond_eq_some hfr with ⟨_, h2⟩ | ⟨_, h2⟩
        ·simp only [Option.some.injEq, Prod.mk.injEq] at h2
         obtain ⟨_, rfl⟩ := h2
         exact h1.trans (ih s1 _ _ hrn h1.low).1
        ·cases h2
       ·cases hfr
      ·cases hfr
     refine ⟨⟨hk0.low, hk0.le, rfl, fun x hx => List.mem_append_right _ hx, fun x hx => ?_, fun x hx hn => ?_⟩, fun B σ rd fn ro a k cs cs0 w hR hf => ?_⟩
     ·rcases List.mem_append.1 hx with h1 | h1
      ·exact .inr (below_mem.1 h1).2
      ·exact .inl h1
     ·refine hk0.same x (Nat.lt_of_lt_of_le hx (maxN_le _ _).2) fun hm => hn (List.mem_append_left _ (below_mem.2 ⟨hm, hx⟩))
     ·obtain ⟨kq, hkq, hkc⟩ := cut_rk hcut (hR.fr.td hret)
      have hR0 : RSt kq B G σ (cutS s pre) s.fr.rd s.fr.fn ro a k [] w := ⟨⟨hR.fr.tm, hR.fr.df, fun _ => hkc, hR.fr.rd⟩, .nil, hR.rel, hR.big, rfl, rfl⟩
      have hout := hok kq B σ s.fr.rd s.fr.fn ro a k [] (cs ++ cs0) w hR0
      rw [hs1] at hout
      have hmk : mkF (cutS s pre).fr ro a k = mkF s.fr ro a k := by simp [mkF, cutS, hret]
      rcases hout with h0 | ⟨r, hr, hgo⟩
      ·subst h0; simp [joinAll] at hj
      ·obtain ⟨vr, ar, hfr, hnx, hsee⟩ := hall r hr
       split at hfr
       ·rename_i s1 hs
        have hk1 := hone r hr s1 hs
        unfold stopR at hfr
        split at hfr
        ·rename_i a2 hrn
         rcases cond_eq_some hfr with ⟨hsz, h2⟩ | ⟨_, h2⟩
         ·simp only [Option.some.injEq, Prod.mk.injEq] at h2
          obtain ⟨rfl, rfl⟩ := h2
          simp only [Bool.and_eq_true] at hsz
          have hsz1 := beq_iff.1 hsz.1
          have hsz2 := sameD_iff hsz.2
          have hf1 : Fresh σ s.nx a1.nx := hf
          have hkr := ih s1 _ _ hrn hk1.low
          have hfin := fin_next (Κ := kq) (s := cutS s pre) hk1.le hkr.1.le (fun B σ rd fn ro a k cs cs0 w => hkr.2 kq B σ rd fn ro a k cs cs0 w) B σ s.fr.rd s.fr.fn (cs ++ cs0) w _ (hgo s1 hs) fun i h1 h2 => hf1 i h1 (Nat.lt_of_lt_of_le h2 hnx)
          obtain ⟨⟨τ, ro', a', k', cs', w', hst, hR', hext⟩, hc1, hc2, hc3⟩ := hfin.1 rfl
          obtain rfl : cs' = [] := by
           have := hR'.cs
           rw [hc1] at this
           cases this; rfl
          obtain rfl : k' = kq := by
           have := hR'.fr.td hc2
           rw [hc3] at this
           cases this with
           | cons hi _ => cases hi
           | stop => rfl
          have hbot := hR'.bot
          rw [hc1] at hbot
          obtain ⟨hb1, hb2⟩ := hbot
          obtain ⟨τ', q1, q2, q3⟩ := hsee B G σ τ w w' hR.rel hf1 hR'.rel hext
          have htm : RT τ' l1.length (ofT l1) a'.tmps := ofT_ok (q3 _ (by
           have := hR'.fr.tm
           rw [hsz1] at this
           exact listT_ok this))
          have hdf : a'.defers = a.defers := by
           have h1 := hR'.fr.df
           rw [hsz2] at h1
           exact (rd_sub hR.fr.df hext.sub h1).symm
          have hmk2 : mkF a2.fr ro' a' k' = mkF (⟨s.fr.fn, s.fr.sz, ofT l1, post, s.fr.df, s.fr.rd, false⟩ : Fr) ro' a' k' := by
           simp [mkF, hc2, show a2.fr.fn = s.fr.fn from hb2]
          rw [hmk] at hst
          have hrr : ro' = ro := by
           have h1 := hR'.fr.rd
           rw [show a2.fr.rd = s.fr.rd from hb1] at h1
           have h2 := hR.fr.rd
           generalize s.fr.rd = q at h1 h2
           cases h1 with
           | none => cases h2; rfl
           | some id b z hid => cases h2 with
            | some _ b' z' hid' =>
             have := hext.sub _ _ hid'
             rw [hid] at this
             simp only [Option.some.injEq, Prod.mk.injEq] at this
             rw [this.1]
          subst hrr
          refine ⟨τ', ro', a', k', cs, w', ?_, ⟨⟨?_, ?_, fun _ => hkq.mono q2.sub, hR.fr.rd.mono q2.sub⟩, hR.cs.mono q2.sub, q1, Nat.le_trans hR.big q2.size, ?_⟩, q2⟩
          ·rw [← hmk2]; exact hst
          ·rw [← beq_iff.1 hlen]; exact htm
          ·rw [hdf]; exact hR.fr.df.mono q2.sub
          ·have := botF_congr (f := s.fr) (f' := (⟨s.fr.fn, s.fr.sz, ofT l1, post, s.fr.df, s.fr.rd, false⟩ : Fr)) rfl rfl s.cs
           exact ⟨this.1.trans hR.bot.1, this.2.trans hR.bot.2⟩
         ·cases h2
        ·cases hfr
       ·cases hfr
    ·cases h
   ·cases h'
  ·cases h'
 ·cases h'
theorem noStopR_iff {x : Option (AV × St)} {v : AV} {a : St} (h : noStopR x = some (v, a)) : isStopV v = false ∧ x = some (v, a) := by
 unfold noStopR at h
 split at h
 ·rcases cond_eq_some h with ⟨_, h'⟩ | ⟨hv, h'⟩
  ·cases h'
  ·simp only [Option.some.injEq, Prod.mk.injEq] at h'
   obtain ⟨rfl, rfl⟩ := h'
   exact ⟨hv, rfl⟩
 ·cases h
theorem done_value {s s' : St} {v : AV} (h : stp P G X s = .done v s') : ∀ {B : Nat} {σ : Sg} {rd : Option Nat} {fn : FuncId} {m : Machine} {cs0 : List Frame} {w : World}, Ends P B G σ s rd fn m cs0 w v s' → isStopV v = false := by
 intro B σ rd fn m cs0 w he
 obtain ⟨τ, w', u, hv, _⟩ := he
 cases hv <;> rfl
theorem body_ok (hN : NoNum P) (hX : XOk P X) (hm : P.follows .mixedOrders = true) {J : FuncId → Bool} {rn : St → Option (AV × St)} (ih : RunOk P G rn) : RunOk P G (runBody P G X J rn) := by
 have next : ∀ {s s1 : St} {v : AV} {s' : St}, rn s1 = some (v, s') → Low s1.hp s1.nx → s.nx ≤ s1.nx →
   ∀ (Κ : List Item) (B : Nat) (σ : Sg) (rd : Option Nat) (fn : FuncId) (cs0 : List Frame) (w : World) (m : Machine), (Fresh σ s.nx s1.nx → Goes Κ P B G σ s rd fn m cs0 w s1) → Fresh σ s.nx s'.nx → Fin' Κ P B G σ s rd fn m cs0 w v s' := by
  intro s s1 v s' hr hl hle Κ B σ rd fn cs0 w m hgo hf
  obtain ⟨hk2, hends⟩ := ih s1 v s' hr hl
  exact fin_next hle hk2.le (fun B σ rd fn ro a k cs cs0 w => hends Κ B σ rd fn ro a k cs cs0 w) B σ rd fn cs0 w m hgo hf
 intro s v s' h hl
 rw [runBody_eq, stpF_eq] at h
 have hkp := stp_keeps (P := P) (G := G) (X := X) hl
 have hok := fun (Κ : List Item) (B : Nat) (σ : Sg) (rd : Option Nat) (fn : FuncId) (ro : Option Nat) (a : Act) (k : List Item) (cs cs0 : List Frame) (w : World) (hR : RSt Κ B G σ s rd fn ro a k cs w) => stp_ok (cs0 := cs0) hN hX hR
 split at h
 ·rename_i s1 hs1
  rw [hs1] at hkp
  have hkp : Keeps s s1 := hkp
  have hgo : ∀ (Κ : List Item) (B : Nat) (σ : Sg) (rd : Option Nat) (fn : FuncId) (ro : Option Nat) (a : Act) (k : List Item) (cs cs0 : List Frame) (w : World), RSt Κ B G σ s rd fn ro a k cs w → Fresh σ s.nx s1.nx → Goes Κ P B G σ s rd fn (lone (mkF s.fr ro a k) (cs ++ cs0) w) cs0 w s1 := fun Κ B σ rd fn ro a k cs cs0 w hR hf => by
   have := hok Κ B σ rd fn ro a k cs cs0 w hR
   rw [hs1] at this
   exact this hf
  rcases cond_eq_some h with ⟨_, h'⟩ | ⟨_, h'⟩ <;> clear h
  ·split at h'
   ·rename_i c cs1 hcs1
    split at h'
    ·rename_i v2 s2 hr2
     rcases cond_eq_some h' with ⟨_, h⟩ | ⟨hv2, h⟩ <;> clear h'
     ·cases h
     split at h
     ·rename_i c' hc'
      obtain ⟨hk2, hends⟩ := ih { s1 with cs := [] } v2 s2 hr2 hkp.low
      have hk2' : Keeps s1 s2 := ⟨hk2.low, hk2.le, hk2.lb, hk2.wl, hk2.wlb, hk2.same⟩
      have hk3 : Keeps s { s2 with fr := c', cs := cs1 } := (hkp.trans hk2').trans (.of hk2.low rfl rfl rfl rfl)
      obtain ⟨hk4, _⟩ := ih _ v s' h hk3.low
      refine ⟨hk3.trans hk4, fun Κ B σ rd fn ro a k cs cs0 w hR hf => next h hk3.low hk3.le Κ B σ rd fn cs0 w _ (fun hf2 => ?_) hf⟩
      have hf2 : Fresh σ s.nx s2.nx := hf2
      obtain ⟨τ, ro1, a1, k1, csm, w1, hst, hR1, hext⟩ := hgo Κ B σ rd fn ro a k cs cs0 w hR fun i h1 h2 => hf2 i h1 (Nat.lt_of_lt_of_le h2 hk2.le)
      obtain ⟨f, csr, rfl⟩ : ∃ f csr, csm = f :: csr := by
       have := hR1.cs
       rw [hcs1] at this
       cases this
       exact ⟨_, _, rfl⟩
      have hft : Fresh τ s1.nx s2.nx := fun i h1 h2 => by
       cases ht : τ i with
       | none => rfl
       | some L =>
        rcases hext.dom i L ht with e | ⟨_, e⟩
        ·rw [hf2 i (Nat.le_trans hkp.le h1) h2] at e; cases e
        ·omega
      obtain ⟨υ, w2, u, g1, g2, g3, g4, _⟩ := (hends Κ B τ s1.fr.rd s1.fr.fn ro1 a1 k1 [] (f :: (csr ++ cs0)) w1 ⟨hR1.fr, .nil, hR1.rel, hR1.big, rfl, rfl⟩ hft).2 hv2
      have hg4 : Steps P (lone (mkF s1.fr ro1 a1 k1) (f :: csr ++ cs0) w1) (lone (f.finish u) (csr ++ cs0) w2) := g4 f (csr ++ cs0) rfl
      obtain ⟨υ', ro2, a2, k2, cs2, w3, st2, R2, e2⟩ := goes_pop (cs0 := cs0) (m := lone (mkF s1.fr ro1 a1 k1) (f :: csr ++ cs0) w1) (s1 := s2) hR1 hcs1 hc' g2 g3 g1 fun f' cs' e => by
       cases e; exact hg4
      exact ⟨υ', ro2, a2, k2, cs2, w3, hst.trans st2, R2, hext.trans e2⟩
     ·cases h
    ·cases h'
   ·cases h'
  ·obtain ⟨hk4, _⟩ := ih s1 v s' h' hkp.low
   exact ⟨hkp.trans hk4, fun Κ B σ rd fn ro a k cs cs0 w hR hf => next h' hkp.low hkp.le Κ B σ rd fn cs0 w _ (hgo Κ B σ rd fn ro a k cs cs0 w hR) hf⟩
 ·rename_i s1 hs1
  simp only [Option.some.injEq, Prod.mk.injEq] at h
  obtain ⟨rfl, rfl⟩ := h
  rw [hs1] at hkp
  refine ⟨hkp, fun Κ B σ rd fn ro a k cs cs0 w hR hf => ⟨fun _ => ?_, fun e => by cases e⟩⟩
  have := hok Κ B σ rd fn ro a k cs cs0 w hR
  rw [hs1] at this
  obtain ⟨rfl, h2, h3, h4⟩ := this
  exact ⟨⟨σ, ro, a, k, cs, w, .refl _ _, hR, .refl ..⟩, h2, h3, h4⟩
 ·rename_i l hs1
  rcases cond_eq_some h with ⟨_, h'⟩ | ⟨_, h'⟩ <;> clear h
  ·split at h'
   ·rename_i s1 hc
    have hk1 := (cutK_ok (Κ := []) hN hX ih hc hl).1
    obtain ⟨hk4, _⟩ := ih s1 v s' h' hk1.low
    exact ⟨hk1.trans hk4, fun Κ B σ rd fn ro a k cs cs0 w hR hf => next h' hk1.low hk1.le Κ B σ rd fn cs0 w _ ((cutK_ok hN hX ih hc hl).2 B σ rd fn ro a k cs cs0 w hR) hf⟩
   ·cases h'
  rw [hs1] at hkp
  have hgood : ∀ r, r ∈ l → Good s.nx r := hkp
  unfold joined at h'
  split at h'
  ·rename_i v1 a1 hj
   simp only [Option.some.injEq, Prod.mk.injEq] at h'
   obtain ⟨rfl, rfl⟩ := h'
   have hlb : (apartS s).nx ≤ (apartS s).lb := (maxN_le _ _).1
   have hone : ∀ r, r ∈ l → ∀ s1, putV ((apartS s).turn r.dl r.nx) r.v = .go s1 → Keeps (apartS s) s1 := fun r hr s1 hs => by
    have := putV_keeps (x := r.v) (good_turn (s := apartS s) hl (hgood r hr))
    rw [hs] at this; exact this
   obtain ⟨hk0, hall⟩ := joinAll_spec (s0 := apartS s) hl hlb l _ _ hj fun r hr v a hfr => by
    split at hfr
    ·rename_i s1 hs
     have h1 := hone r hr s1 hs
     exact h1.trans (ih s1 v a (noStopR_iff hfr).2 h1.low).1
    ·cases hfr
   refine ⟨⟨hk0.low, hk0.le, rfl, fun x hx => List.mem_append_right _ hx, fun x hx => ?_, fun x hx hn => ?_⟩, fun Κ B σ rd fn ro a k cs cs0 w hR hf => ?_⟩
   ·rcases List.mem_append.1 hx with h1 | h1
    ·exact .inr (below_mem.1 h1).2
    ·exact .inl h1
   ·refine hk0.same x (Nat.lt_of_lt_of_le hx (maxN_le _ _).2) fun hm => hn (List.mem_append_left _ (below_mem.2 ⟨hm, hx⟩))
   ·have hout := hok Κ B σ rd fn ro a k cs cs0 w hR
    rw [hs1] at hout
    rcases hout with h0 | ⟨r, hr, hgo⟩
    ·subst h0; simp [joinAll] at hj
    ·obtain ⟨vr, ar, hfr, hnx, hsee⟩ := hall r hr
     split at hfr
     ·rename_i s1 hs
      have hk1 := hone r hr s1 hs
      have hf1 : Fresh σ s.nx a1.nx := hf
      obtain ⟨hv, h2⟩ := noStopR_iff hfr
      obtain ⟨τ, w', u, g1, g2, g3, g4, g5⟩ := (next (s := s) h2 hk1.low hk1.le Κ B σ rd fn cs0 w _ (hgo s1 hs) fun i h1 h2 => hf1 i h1 (Nat.lt_of_lt_of_le h2 hnx)).2 hv
      obtain ⟨τ', k1, k2, k3⟩ := hsee B G σ τ w w' hR.rel hf1 g2 g3
      have hE : Ends P B G σ s rd fn (lone (mkF s.fr ro a k) (cs ++ cs0) w) cs0 w v1 { a1 with lb := s.lb, wl := below s.lb a1.wl ++ s.wl } := ⟨τ', w', u, k3 u g1, k1, k2, g4, g5⟩
      refine ⟨fun e => ?_, fun _ => hE⟩
      have := k3 u g1
      rw [isStopV_iff e] at this
      cases this
     ·cases hfr
  ·cases h'
 ·rename_i v' s1 hs1
  simp only [Option.some.injEq, Prod.mk.injEq] at h
  obtain ⟨rfl, rfl⟩ := h
  rw [hs1] at hkp
  refine ⟨hkp, fun Κ B σ rd fn ro a k cs cs0 w hR hf => ?_⟩
  have := hok Κ B σ rd fn ro a k cs cs0 w hR
  rw [hs1] at this
  have hE := this hf
  refine ⟨fun e => ?_, fun _ => hE⟩
  rw [done_value hs1 hE] at e; cases e
 ·rename_i ops k0 hs1
  rcases cond_eq_some h with ⟨hb, h'⟩ | ⟨_, h'⟩
  ·split at h'
   ·rename_i s1 hd
    have hk1 := (region_ok (Κ := []) ih hN hX hm hs1 hb hd hl).1
    obtain ⟨hk4, _⟩ := ih s1 v s' h' hk1.low
    exact ⟨hk1.trans hk4, fun Κ B σ rd fn ro a k cs cs0 w hR hf => next h' hk1.low hk1.le Κ B σ rd fn cs0 w _ ((region_ok ih hN hX hm hs1 hb hd hl).2 B σ rd fn ro a k cs cs0 w hR) hf⟩
   ·cases h'
  ·cases h'
 ·cases h
theorem opsF_ok (hN : NoNum P) (hX : XOk P X) {ops : Array Oper} {t : List AI} : ∀ (rest : List Oper) (k : Nat) (s : St), s.fr.ret = false → s.fr.todo = .inReg ops k rest :: t → Low s.hp s.nx →
  Keeps s (match opsF P G s.fr.sz s.lb rest k s.fr.tm s.hp s.nx s.wl with | (k', rest', tm, hp, nx, wl) => { s with fr := { s.fr with tm, todo := .inReg ops k' rest' :: t }, hp, nx, wl }) ∧
  ∀ (B : Nat) (σ : Sg) (rd : Option Nat) (fn : FuncId) (ro : Option Nat) (a : Act) (kk : List Item) (cs cs0 : List Frame) (w : World), RSt Κ B G σ s rd fn ro a kk cs w →
   Fresh σ s.nx (match opsF P G s.fr.sz s.lb rest k s.fr.tm s.hp s.nx s.wl with | (_, _, _, _, nx, _) => nx) →
   Goes Κ P B G σ s rd fn (lone (mkF s.fr ro a kk) (cs ++ cs0) w) cs0 w (match opsF P G s.fr.sz s.lb rest k s.fr.tm s.hp s.nx s.wl with | (k', rest', tm, hp, nx, wl) => { s with fr := { s.fr with tm, todo := .inReg ops k' rest' :: t }, hp, nx, wl }) := by
 intro rest
 have stay : ∀ (s : St) (todo : List AI), s.fr.todo = todo → Low s.hp s.nx → ({ s with fr := { s.fr with tm := s.fr.tm, todo }, hp := s.hp, nx := s.nx, wl := s.wl } : St) = s := by
  intro s todo h _
  obtain ⟨fr, cs, hp, nx, lb, wl⟩ := s
  obtain ⟨f1, f2, f3, f4, f5, f6, f7⟩ := fr
  simp only at h
  subst h; rfl
 have refl : ∀ (s : St), Low s.hp s.nx → Keeps s s ∧ ∀ (B : Nat) (σ : Sg) (rd : Option Nat) (fn : FuncId) (ro : Option Nat) (a : Act) (kk : List Item) (cs cs0 : List Frame) (w : World), RSt Κ B G σ s rd fn ro a kk cs w →
   Goes Κ P B G σ s rd fn (lone (mkF s.fr ro a kk) (cs ++ cs0) w) cs0 w s := fun s hl => ⟨.of hl rfl rfl rfl rfl, fun B σ rd fn ro a kk cs cs0 w hR => ⟨σ, ro, a, kk, cs, w, .refl _ _, hR, .refl ..⟩⟩
 induction rest with
 | nil =>
  intro k s hret htodo hl
  rw [opsF_nil]
  dsimp only
  rw [stay s _ htodo hl]
  exact ⟨(refl s hl).1, fun B σ rd fn ro a kk cs cs0 w hR _ => (refl s hl).2 B σ rd fn ro a kk cs cs0 w hR⟩
 | cons o rest ih =>
  intro k s hret htodo hl
  have base : Keeps s ({ s with fr := { s.fr with tm := s.fr.tm, todo := .inReg ops k (o :: rest) :: t }, hp := s.hp, nx := s.nx, wl := s.wl } : St) ∧
    ∀ (B : Nat) (σ : Sg) (rd : Option Nat) (fn : FuncId) (ro : Option Nat) (a : Act) (kk : List Item) (cs cs0 : List Frame) (w : World), RSt Κ B G σ s rd fn ro a kk cs w →
     Goes Κ P B G σ s rd fn (lone (mkF s.fr ro a kk) (cs ++ cs0) w) cs0 w ({ s with fr := { s.fr with tm := s.fr.tm, todo := .inReg ops k (o :: rest) :: t }, hp := s.hp, nx := s.nx, wl := s.wl } : St) := by
   rw [stay s _ htodo hl]
   exact refl s hl
  rw [opsF_cons]
  cases hg : o.guard with
  | some g => dsimp only; exact ⟨base.1, fun B σ rd fn ro a kk cs cs0 w hR _ => base.2 B σ rd fn ro a kk cs cs0 w hR⟩
  | none =>
   cases hr : aop P G s.fr.tm s.hp s.nx o with
   | none => dsimp only; exact ⟨base.1, fun B σ rd fn ro a kk cs cs0 w hR _ => base.2 B σ rd fn ro a kk cs cs0 w hR⟩
   | some r =>
    dsimp only
    have hstp : ∀ fr', finishA s.fr r.v = some fr' → stp P G X s = .go { s.turn r.dl r.nx with fr := fr' } := fun fr' hf => by
     unfold stp todoA
     rw [hret, htodo]
     simp only [wantedA, hg, operA, hr, putV, St.turn, hf]
    have step : ∀ fr', finishA s.fr r.v = some fr' → fr'.sz = s.fr.sz → fr'.ret = false → fr'.todo = .inReg ops (k + 1) rest :: t →
      ∀ (s2 : St) (top : Nat), (Keeps { s.turn r.dl r.nx with fr := fr' } s2 ∧ ∀ (B : Nat) (σ : Sg) (rd : Option Nat) (fn : FuncId) (ro : Option Nat) (a : Act) (kk : List Item) (cs cs0 : List Frame) (w : World), RSt Κ B G σ { s.turn r.dl r.nx with fr := fr' } rd fn ro a kk cs w →
        Fresh σ r.nx top → Goes Κ P B G σ { s.turn r.dl r.nx with fr := fr' } rd fn (lone (mkF fr' ro a kk) (cs ++ cs0) w) cs0 w s2) → top = s2.nx →
      Keeps s s2 ∧ ∀ (B : Nat) (σ : Sg) (rd : Option Nat) (fn : FuncId) (ro : Option Nat) (a : Act) (kk : List Item) (cs cs0 : List Frame) (w : World), RSt Κ B G σ s rd fn ro a kk cs w →
        Fresh σ s.nx top → Goes Κ P B G σ s rd fn (lone (mkF s.fr ro a kk) (cs ++ cs0) w) cs0 w s2 := by
     intro fr' hf _ _ _ s2 top h2 htop
     have hk := stp_keeps (P := P) (G := G) (X := X) hl
     rw [hstp fr' hf] at hk
     have hk : Keeps s { s.turn r.dl r.nx with fr := fr' } := hk
     refine ⟨hk.trans h2.1, fun B σ rd fn ro a kk cs cs0 w hR hfr => ?_⟩
     have hgo := stp_ok (cs0 := cs0) hN hX hR
     rw [hstp fr' hf] at hgo
     have hle : r.nx ≤ top := by rw [htop]; exact h2.1.le
     obtain ⟨τ, ro1, a1, k1, cs1, w1, hst, hR1, hext⟩ := hgo fun i h1 h3 => hfr i h1 (Nat.lt_of_lt_of_le h3 hle)
     have hf1 : Fresh τ r.nx top := fun i h1 h3 => by
      cases ht : τ i with
      | none => rfl
      | some L =>
       rcases hext.dom i L ht with e | ⟨_, e⟩
       ·rw [hfr i (Nat.le_trans hk.le h1) h3] at e; cases e
       ·have e : i < r.nx := e; omega
     obtain ⟨υ, ro2, a2, k2, cs2, w2, st2, R2, e2⟩ := h2.2 B τ rd fn ro1 a1 k1 cs1 cs0 w1 hR1 hf1
     exact ⟨υ, ro2, a2, k2, cs2, w2, hst.trans st2, R2, hext.trans e2⟩
    have low2 : ∀ fr', finishA s.fr r.v = some fr' → Low (app r.dl s.hp) r.nx := fun fr' hf => by
     have hk := stp_keeps (P := P) (G := G) (X := X) hl
     rw [hstp fr' hf] at hk
     have hk : Keeps s { s.turn r.dl r.nx with fr := fr' } := hk
     exact hk.low
    cases hd : o.dst with
    | some d =>
     dsimp only
     cases hb : Nat.blt d s.fr.sz with
     | false =>
      simp only [cond_false]
      exact ⟨base.1, fun B σ rd fn ro a kk cs cs0 w hR _ => base.2 B σ rd fn ro a kk cs cs0 w hR⟩
     | true =>
      simp only [cond_true]
      have hf : finishA s.fr r.v = some { s.fr with tm := s.fr.tm.set d (some r.v), todo := .inReg ops (k + 1) rest :: t } := by
       unfold finishA; rw [htodo]; simp only [hd, hb, cond_true]
      exact step _ hf rfl hret rfl _ _ (ih (k + 1) { s.turn r.dl r.nx with fr := { s.fr with tm := s.fr.tm.set d (some r.v), todo := .inReg ops (k + 1) rest :: t } } hret rfl (low2 _ hf)) rfl
    | none =>
     dsimp only
     have hf : finishA s.fr r.v = some { s.fr with todo := .inReg ops (k + 1) rest :: t } := by
      unfold finishA; rw [htodo]; simp only [hd]
     exact step _ hf rfl hret rfl _ _ (ih (k + 1) { s.turn r.dl r.nx with fr := { s.fr with todo := .inReg ops (k + 1) rest :: t } } hret rfl (low2 _ hf)) rfl
theorem fastS_ok (hN : NoNum P) (hX : XOk P X) (s : St) (hl : Low s.hp s.nx) : Keeps s (fastS P G s) ∧
  ∀ (B : Nat) (σ : Sg) (rd : Option Nat) (fn : FuncId) (ro : Option Nat) (a : Act) (k : List Item) (cs cs0 : List Frame) (w : World), RSt Κ B G σ s rd fn ro a k cs w → Fresh σ s.nx (fastS P G s).nx →
   Goes Κ P B G σ s rd fn (lone (mkF s.fr ro a k) (cs ++ cs0) w) cs0 w (fastS P G s) := by
 have refl : Keeps s s ∧ ∀ (B : Nat) (σ : Sg) (rd : Option Nat) (fn : FuncId) (ro : Option Nat) (a : Act) (kk : List Item) (cs cs0 : List Frame) (w : World), RSt Κ B G σ s rd fn ro a kk cs w → Fresh σ s.nx s.nx →
   Goes Κ P B G σ s rd fn (lone (mkF s.fr ro a kk) (cs ++ cs0) w) cs0 w s := ⟨.of hl rfl rfl rfl rfl, fun B σ rd fn ro a kk cs cs0 w hR _ => ⟨σ, ro, a, kk, cs, w, .refl _ _, hR, .refl ..⟩⟩
 rw [fastS_eq]
 split
 ·exact refl
 ·rename_i hret
  split
  ·rename_i ops k rest t htodo
   exact opsF_ok hN hX rest k s hret htodo hl
  ·exact refl
theorem run_ok (hN : NoNum P) (hX : XOk P X) (hm : P.follows .mixedOrders = true) {J : FuncId → Bool} : ∀ n, RunOk P G (run P G X J n) := by
 intro n
 induction n with
 | zero => intro s v s' h; cases h
 | succ n ih =>
  intro s v s' h hl
  have h : runBody P G X J (run P G X J n) (fastS P G s) = some (v, s') := h
  obtain ⟨hk2, hends⟩ := body_ok hN hX hm ih _ v s' h (fastS_ok (Κ := []) (G := G) hN hX s hl).1.low
  refine ⟨(fastS_ok (Κ := []) (G := G) hN hX s hl).1.trans hk2, fun Κ B σ rd fn ro a k cs cs0 w hR hf => ?_⟩
  obtain ⟨hk, hgo⟩ := fastS_ok (Κ := Κ) (G := G) hN hX s hl
  exact fin_next hk.le hk2.le (fun B σ rd fn ro a k cs cs0 w => hends Κ B σ rd fn ro a k cs cs0 w) B σ rd fn cs0 w _ (fun hf1 => hgo B σ rd fn ro a k cs cs0 w hR hf1) hf
end
end Go.Ex
set_option linter.unusedVariables false
set_option linter.unusedSimpArgs false
namespace Go.Ex

section
variable {P : Program} {G : Nat} {X : FuncId → Option ExtK} {J : FuncId → Bool}

theorem run_calls (hN : NoNum P) (hX : XOk P X) (hm : P.follows .mixedOrders = true) {f : FuncId} {args : List AV} {vs : Array Value} {fr : Fr} {hp : Tr Blk} {nx lb n : Nat} {wl : List Nat} {v : AV} {s' : St} {B : Nat} {σ : Sg} {w : World} (hv : isStopV v = false)
  (hent : enterA P f args = some fr) (hrun : run P G X J n { fr, cs := [], hp, nx, lb, wl } = some (v, s')) (hlow : Low hp nx) (ha : RL σ args vs.toList) (hrel : Rel B G σ hp w) (hB : B ≤ w.heap.size) (hf : Fresh σ nx s'.nx) :
  Calls P f vs w fun e w' => ∃ u τ, e = .returned u ∧ Rv τ v u ∧ Rel B G τ s'.hp w' ∧ Ext σ τ hp s'.hp nx s'.nx w w' := by
 intro cs
 obtain ⟨fnn, cc, a, h1, h2, h3, h4, h5, h6, h7⟩ := enter_ok hent ha
 obtain ⟨_, hends⟩ := run_ok (G := G) hN hX hm n _ _ _ hrun hlow
 obtain ⟨τ, w', u, g1, g2, g3, _, g5⟩ := (hends [] B σ fr.rd fr.fn none a [.code cc] [] cs w ⟨h4, .nil, hrel, hB, rfl, rfl⟩ hf).2 hv
 obtain ⟨fr', k1, k2, k3⟩ := g5 h6
 refine ⟨.returned u, w', fr', ⟨u, τ, rfl, g1, g2, g3⟩, ?_, k3.trans h7, k2⟩
 rw [mkF_run (by exact h5)] at k1
 rw [h3]
 exact k1
theorem run_true (hN : NoNum P) (hX : XOk P X) (hm : P.follows .mixedOrders = true) {f : FuncId} {fr : Fr} {hp : Tr Blk} {nx n : Nat} {σ : Sg} {w : World}
  {args : List AV} {vs : Array Value} (hent : enterA P f args = some fr) (hrun : (match run P G X J n { fr, cs := [], hp, nx, lb := 0, wl := [] } with | some (.bool b, _) => b | _ => false) = true) (ha : RL σ args vs.toList) (hlow : Low hp nx) (hrel : Rel w.heap.size G σ hp w) (hf : ∀ i, nx ≤ i → σ i = none) :
  Calls P f vs w fun e w' => e = .returned (.bool true) ∧ RowKit.Below w.heap.size w w' := by
 split at hrun
 ·rename_i b s' hr
  subst hrun
  refine (run_calls (J := J) hN hX hm rfl hent hr hlow ha hrel (Nat.le_refl _) (fun i h _ => hf i h)).mono fun e w' h => ?_
  obtain ⟨u, τ, rfl, h1, h2, h3⟩ := h
  rw [h1.inv_bool]
  exact ⟨rfl, h3.below hrel (Nat.le_refl _)⟩
 ·cases hrun
end

noncomputable def sg0 (P : Program) (w : World) (G : Nat) : Sg := fun i => if i < G then some (i, match w.heap[i]? with | some (.cells c _ _) => c.size | _ => 0) else none
theorem rel0 {P : Program} {w : World} {G : Nat} {hp : Tr Blk} (h : ∀ i b, hp.get i = some b → i < G ∧ ∃ l c t, b = .cells false false none l ∧ w.heap[i]? = some (.cells c t (0, 0)) ∧ RL (sg0 P w G) l c.toList ∧ ∀ u, u ∈ c.toList → oneC u = true) :
  Rel w.heap.size G (sg0 P w G) hp w := by
 refine ⟨fun i b hb => ?_, fun i j b c k z z' hi hj hsi hsj => ?_, fun g hg => ⟨_, by simp [sg0, hg]; rfl⟩⟩
 ·obtain ⟨hlt, l, c, t, rfl, hh, hl, h1⟩ := h i b hb
  have hlen : l.length = c.size := by simpa using hl.1
  refine ⟨i, c.size, _, by simp [sg0, hlt, hh], hh, .cells false false none l c t (0, 0) (fun a h => by cases h) rfl (fun _ => hlen) (Nat.le_of_eq hlen) (fun _ _ hx => Nat.not_lt_zero _ hx.2) (fun j v hv => h1 v (List.mem_of_getElem? (by simpa using hv))) ?_, fun hw => by cases hw⟩
  intro j x hx
  obtain ⟨v, hv, hxv⟩ := hl.get hx
  exact ⟨v, by simpa using hv, hxv⟩
 ·have h1 := (h i b hi).1
  have h2 := (h j c hj).1
  simp only [sg0, h1, h2, if_true, Option.some.injEq, Prod.mk.injEq] at hsi hsj
  omega
end Go.Ex
set_option linter.unusedVariables false
set_option linter.unusedSimpArgs false
namespace Go.Ex

section
variable (P : Program) (rec : TypeId → DataW Unit → Option (List AV))
noncomputable def flatFs : List Field → List (DataW Unit) → Nat → Option (List AV)
 | [], [], _ => some []
 | f :: fs, d :: ds, off => bif Nat.beq f.offset off then match rec f.type d with
  | some l => bif Nat.beq l.length (P.cellsOf f.type) then match flatFs fs ds (off + l.length) with
   | some r => some (l ++ r)
   | none => none
   else none
  | none => none
  else none
 | _, _, _ => none
noncomputable def flatEs (e : TypeId) : List (DataW Unit) → Option (List AV)
 | [] => some []
 | d :: ds => match rec e d with
  | some l => bif Nat.beq l.length (P.cellsOf e) then match flatEs e ds with
   | some r => some (l ++ r)
   | none => none
   else none
  | none => none
end

noncomputable def flatD (P : Program) : Nat → TypeId → DataW Unit → Option (List AV)
 | 0, _, _ => none
 | n + 1, t, d => match P.underlying t, d with
  | some .bool, .lit (.bool b) => some [.bool b]
  | some (.int k), .lit (.int _ z) => some [.int k z]
  | some .string, .lit (.string bs) => some [.str (bs.map UInt8.toNat)]
  | some (.struct fs), .agg ds => match flatFs P (flatD P n) fs.toList ds 0 with
   | some l => bif Nat.beq l.length (P.cellsOf t) then some l else none
   | none => none
  | some (.array m e), .agg ds => bif Nat.beq ds.length m then match flatEs P (flatD P n) e ds with
   | some l => bif Nat.beq l.length (P.cellsOf t) then some l else none
   | none => none
   else none
  | _, _ => none
section
variable {P : Program} {σ : Sg} {w : World} {base : Nat} {sp : Nat → Bool} {enc : TypeId × Value → Unit}

noncomputable def FlatOk (P : Program) (σ : Sg) (w : World) (base : Nat) (sp : Nat → Bool) (enc : TypeId × Value → Unit) (rec : TypeId → DataW Unit → Option (List AV)) : Prop :=
 ∀ t d l, rec t d = some l → ∀ fuel cs p, DataW.trod enc P w base sp false fuel t cs = some (d, p) → RL σ l cs ∧ ∀ u, u ∈ cs → oneC u = true
theorem piece {l r : List AV} {cs : List Value} {off : Nat} (h1 : RL σ l ((cs.drop off).take l.length) ∧ ∀ u, u ∈ (cs.drop off).take l.length → oneC u = true) (h2 : RL σ r ((cs.drop (off + l.length)).take r.length) ∧ ∀ u, u ∈ (cs.drop (off + l.length)).take r.length → oneC u = true) :
  RL σ (l ++ r) ((cs.drop off).take (l ++ r).length) ∧ ∀ u, u ∈ (cs.drop off).take (l ++ r).length → oneC u = true := by
 have e : (cs.drop off).take (l ++ r).length = (cs.drop off).take l.length ++ (cs.drop (off + l.length)).take r.length := by
  rw [List.length_append, List.take_add, List.drop_drop]
 rw [e]
 exact ⟨h1.1.append h2.1, fun u hu => by
  rcases List.mem_append.1 hu with h | h
  ·exact h1.2 u h
  ·exact h2.2 u h⟩
theorem mapM_cons_some {α β : Type} {f : α → Option β} {x : α} {l : List α} {r : List β} (h : (x :: l).mapM f = some r) : ∃ y r', f x = some y ∧ l.mapM f = some r' ∧ r = y :: r' := by
 simp only [List.mapM_cons, Option.bind_eq_bind, Option.bind_eq_some_iff, Option.pure_def, Option.some.injEq] at h
 obtain ⟨y, hy, r', hr', rfl⟩ := h
 exact ⟨y, r', hy, hr', rfl⟩
theorem flatFs_ok {rec : TypeId → DataW Unit → Option (List AV)} (hrec : FlatOk P σ w base sp enc rec) {cs : List Value} {fuel : Nat} : ∀ (fs : List Field) (ds : List (DataW Unit)) (off : Nat) (l : List AV), flatFs P rec fs ds off = some l →
  ∀ xs, (fs.mapM fun f => DataW.trod enc P w base sp false fuel f.type ((cs.drop f.offset).take (P.cellsOf f.type))) = some xs → xs.map (·.1) = ds →
  RL σ l ((cs.drop off).take l.length) ∧ ∀ u, u ∈ (cs.drop off).take l.length → oneC u = true := by
 intro fs
 induction fs with
 | nil =>
  intro ds off l h xs _ _
  cases ds with
  | nil => simp [flatFs] at h; subst h; exact ⟨by simpa using RL.nil, by simp⟩
  | cons d ds => simp [flatFs] at h
 | cons f fs ih =>
  intro ds off l h xs hx hd
  obtain ⟨y, xs', h1, h2, rfl⟩ := mapM_cons_some hx
  cases ds with
  | nil => simp [flatFs] at h
  | cons d ds =>
   simp only [List.map_cons, List.cons.injEq] at hd
   simp only [flatFs] at h
   rcases cond_eq_some h with ⟨hq, h'⟩ | ⟨_, h'⟩ <;> clear h
   ·have hoff := beq_iff.1 hq
    split at h'
    ·rename_i l1 hl1
     rcases cond_eq_some h' with ⟨hq2, h⟩ | ⟨_, h⟩ <;> clear h'
     ·have hlen := beq_iff.1 hq2
      split at h
      ·rename_i r hr
       simp only [Option.some.injEq] at h; subst h
       obtain ⟨d', p⟩ := y
       simp only at hd
       obtain ⟨rfl, hd2⟩ := hd
       have g1 := hrec _ _ _ hl1 _ _ _ h1
       rw [hoff, ← hlen] at g1
       exact piece g1 (ih ds _ r hr xs' h2 hd2)
      ·cases h
     ·cases h
    ·cases h'
   ·cases h'
theorem flatEs_ok {rec : TypeId → DataW Unit → Option (List AV)} (hrec : FlatOk P σ w base sp enc rec) {cs : List Value} {fuel : Nat} {e : TypeId} : ∀ (ds : List (DataW Unit)) (k : Nat) (l : List AV), flatEs P rec e ds = some l →
  ∀ xs, ((List.range' k ds.length).mapM fun i => DataW.trod enc P w base sp false fuel e ((cs.drop (i * P.cellsOf e)).take (P.cellsOf e))) = some xs → xs.map (·.1) = ds →
  RL σ l ((cs.drop (k * P.cellsOf e)).take l.length) ∧ ∀ u, u ∈ (cs.drop (k * P.cellsOf e)).take l.length → oneC u = true := by
 intro ds
 induction ds with
 | nil => intro k l h xs _ _; simp [flatEs] at h; subst h; exact ⟨by simpa using RL.nil, by simp⟩
 | cons d ds ih =>
  intro k l h xs hx hd
  rw [List.length_cons, List.range'_succ] at hx
  obtain ⟨y, xs', h1, h2, rfl⟩ := mapM_cons_some hx
  simp only [List.map_cons, List.cons.injEq] at hd
  simp only [flatEs] at h
  split at h
  ·rename_i l1 hl1
   rcases cond_eq_some h with ⟨hq2, h'⟩ | ⟨_, h'⟩ <;> clear h
   ·have hlen := beq_iff.1 hq2
    split at h'
    ·rename_i r hr
     simp only [Option.some.injEq] at h'; subst h'
     obtain ⟨d', p⟩ := y
     simp only at hd
     obtain ⟨rfl, hd2⟩ := hd
     have g1 := hrec _ _ _ hl1 _ _ _ h1
     have g2 := ih (k + 1) r hr xs' h2 hd2
     rw [← hlen] at g1
     rw [Nat.succ_mul, ← hlen] at g2
     rw [← hlen]
     exact piece g1 g2
    ·cases h'
   ·cases h'
  ·cases h
theorem flatD_ok : ∀ n, FlatOk P σ w base sp enc (flatD P n) := by
 intro n
 induction n with
 | zero => intro t d l h; simp [flatD] at h
 | succ n ih =>
  intro t d l h fuel cs p ht
  cases fuel with
  | zero => simp [DataW.trod] at ht
  | succ fuel =>
   unfold flatD at h
   split at h
   ·rename_i b hu
    simp only [Option.some.injEq] at h; subst h
    obtain ⟨b', hc, hx⟩ := DataW.trod_bool hu ht
    simp only [Prod.mk.injEq, DataW.lit.injEq, Lit.bool.injEq] at hx
    rw [hc, hx.1]
    exact ⟨.cons (.bool _) .nil, by simp [oneC]⟩
   ·rename_i k k' z hu
    simp only [Option.some.injEq] at h; subst h
    obtain ⟨z', hc, hx, _⟩ := DataW.trod_int hu ht
    simp only [Prod.mk.injEq, DataW.lit.injEq, Lit.int.injEq] at hx
    rw [hc, hx.1.2]
    exact ⟨.cons (.int _ _) .nil, by simp [oneC]⟩
   ·rename_i bs hu
    simp only [Option.some.injEq] at h; subst h
    obtain ⟨s', hc, hx, _⟩ := DataW.trod_string hu ht
    simp only [Prod.mk.injEq, DataW.lit.injEq, Lit.string.injEq] at hx
    rw [hc, hx.1]
    exact ⟨.cons (.str s') .nil, by simp [oneC]⟩
   ·rename_i fs ds hu
    simp only [DataW.trod, hu] at ht
    split at ht
    ·rename_i hlen
     obtain ⟨xs, hx, he⟩ := Option.map_eq_some_iff.1 ht
     simp only [Prod.mk.injEq, DataW.agg.injEq] at he
     split at h
     ·rename_i l' hl'
      rcases cond_eq_some h with ⟨hq, h'⟩ | ⟨_, h'⟩
      ·simp only [Option.some.injEq] at h'; subst h'
       have := flatFs_ok ih _ _ _ _ hl' xs hx he.1
       rw [beq_iff.1 hq, ← hlen] at this
       simpa using this
      ·cases h'
     ·cases h
    ·cases ht
   ·rename_i m e ds hu
    simp only [DataW.trod, hu] at ht
    split at ht
    ·rename_i hlen
     obtain ⟨xs, hx, he⟩ := Option.map_eq_some_iff.1 ht
     simp only [Prod.mk.injEq, DataW.agg.injEq] at he
     rcases cond_eq_some h with ⟨hm, h'⟩ | ⟨_, h'⟩ <;> clear h
     ·have hm := beq_iff.1 hm
      split at h'
      ·rename_i l' hl'
       rcases cond_eq_some h' with ⟨hq, h⟩ | ⟨_, h⟩
       ·simp only [Option.some.injEq] at h; subst h
        rw [List.range_eq_range', ← hm] at hx
        have := flatEs_ok ih _ _ _ hl' xs hx he.1
        rw [beq_iff.1 hq, ← hlen] at this
        simpa using this
       ·cases h
      ·cases h'
     ·cases h'
    ·cases ht
   ·cases h
theorem laid_var {laid : List (String × DataW Unit)} (h : laidMet P laid w) {name : String} {d : DataW Unit} (hm : (name, d) ∈ laid) {g : Nat} {t : TypeId} {n : Nat} {l : List AV} (hg : P.globalNamed name = some g) (ht : (P.globals[g]?).map (·.type) = some t)
  (hf : flatD P n t d = some l) (hl : l ≠ []) : ∃ (c : Array Value) (tt : TypeId), w.heap[g]? = some (.cells c tt (0, 0)) ∧ RL σ l c.toList ∧ ∀ u, u ∈ c.toList → oneC u = true := by
 obtain ⟨ps, hlv, _, hfr⟩ := h
 have key : ∀ (laid : List (String × DataW Unit)) (ps : List MemPlace), DataW.LaidVars P w laid ps → (name, d) ∈ laid →
   ∃ (cs : Array Value) (fuel : Nat) (p : List MemPlace), w.var? P name = some cs ∧ DataW.trod (fun _ => ()) P w 0 (fun _ => true) false fuel t cs.toList = some (d, p) ∧ ∀ x, x ∈ MemPlace.row ⟨g, 0, none⟩ cs.size → x ∈ ps := by
  intro laid
  induction laid with
  | nil => intro ps _ hm; cases hm
  | cons x r ih =>
   intro ps hlv hm
   obtain ⟨nm, d'⟩ := x
   obtain ⟨g', t', cs, fuel, p, q, h1, h2, h3, h4, h5, rfl⟩ := hlv
   rcases List.mem_cons.1 hm with e | hm
   ·cases e
    rw [hg] at h1; cases h1
    rw [ht] at h2; cases h2
    exact ⟨cs, fuel, p, h3, h4, fun x hx => by simp [hx]⟩
   ·obtain ⟨cs', fuel', p', k1, k2, k3⟩ := ih q h5 hm
    exact ⟨cs', fuel', p', k1, k2, fun x hx => by simp [k3 x hx]⟩
 obtain ⟨cs, fuel, p, h1, h2, h3⟩ := key laid ps hlv hm
 obtain ⟨k1, k2⟩ := flatD_ok (σ := σ) n _ _ _ hf _ _ _ h2
 have hpos : 0 < cs.size := by
  have := k1.1
  have h0 : 0 < l.length := List.length_pos_iff.2 hl
  simpa [this] using h0
 obtain ⟨⟨c, tt, hh⟩, _⟩ := hfr g 0 (h3 _ (by simp only [MemPlace.row, List.mem_map, List.mem_range]; exact ⟨0, hpos, rfl⟩))
 have : c = cs := by
  simp only [World.var?, hg, Option.bind_some, hh, Option.some.injEq] at h1
  exact h1
 subst this
 exact ⟨c, tt, hh, k1, k2⟩
end

noncomputable def heapOf : List (Nat × List AV) → Tr Blk
 | [] => .lf
 | (g, l) :: r => (heapOf r).set g (some (.cells false false none l))
theorem heapOf_get : ∀ {L : List (Nat × List AV)} {i : Nat} {b : Blk}, (heapOf L).get i = some b → ∃ l, (i, l) ∈ L ∧ b = .cells false false none l := by
 intro L
 induction L with
 | nil => intro i b h; simp [heapOf, Tr.get_lf] at h
 | cons p r ih =>
  intro i b h
  obtain ⟨g, l⟩ := p
  simp only [heapOf] at h
  by_cases e : i = g
  ·subst e
   rw [Tr.get_set_same] at h
   simp only [Option.some.injEq] at h
   exact ⟨l, by simp, h.symm⟩
  ·rw [Tr.get_set_other _ _ e] at h
   obtain ⟨l', h1, h2⟩ := ih h
   exact ⟨l', by simp [h1], h2⟩
theorem heapOf_low {L : List (Nat × List AV)} {n : Nat} (h : ∀ p ∈ L, p.1 < n) : Low (heapOf L) n := fun x hx => by
 cases hg : (heapOf L).get x with
 | none => rfl
 | some b =>
  obtain ⟨l, h1, _⟩ := heapOf_get hg
  have := h _ h1
  simp only at this; omega
theorem laidMet_of_H {P : Program} {laid : List (String × DataW Unit)} {w : World} (hf : (laid.filter fun x => x.2.handleName?.isSome) = []) (h : laidMetH P laid w) : laidMet P laid w := by
 unfold laidMetH at h
 rw [hf] at h
 exact h
noncomputable def listOf : Option (List AV) → List AV
 | some l => l
 | none => []
theorem var_ok {P : Program} {laid : List (String × DataW Unit)} {w : World} (h : laidMetH P laid w) (hf : (laid.filter fun x => x.2.handleName?.isSome) = []) {name : String} {d : DataW Unit} (hm : laid.lookup name = some d) {g : Nat} {t : TypeId} {n G : Nat}
  (hg : P.globalNamed name = some g) (ht : (P.globals[g]?).map (·.type) = some t) (hl : (flatD P n t d).isSome = true) (hne : (listOf (flatD P n t d)).isEmpty = false) (hG : g < G) :
  g < G ∧ ∃ (c : Array Value) (tt : TypeId), w.heap[g]? = some (.cells c tt (0, 0)) ∧ RL (sg0 P w G) (listOf (flatD P n t d)) c.toList ∧ ∀ u, u ∈ c.toList → oneC u = true := by
 refine ⟨hG, ?_⟩
 cases hq : flatD P n t d with
 | none => rw [hq] at hl; cases hl
 | some l =>
  rw [hq] at hne
  have hmem : (name, d) ∈ laid := by
   clear h hf
   induction laid with
   | nil => simp at hm
   | cons x r ih =>
    obtain ⟨nm, d'⟩ := x
    simp only [List.lookup_cons] at hm
    by_cases e : name = nm
    ·subst e; simp at hm; subst hm; simp
    ·have : (name == nm) = false := by simpa using e
     rw [this] at hm
     simp [ih hm]
  exact laid_var (laidMet_of_H hf h) hmem hg ht hq (by intro e; subst e; simp [listOf] at hne)
theorem rel_vars {P : Program} {w : World} {G : Nat} {L : List (Nat × List AV)} (h : ∀ p ∈ L, p.1 < G ∧ ∃ (c : Array Value) (tt : TypeId), w.heap[p.1]? = some (.cells c tt (0, 0)) ∧ RL (sg0 P w G) p.2 c.toList ∧ ∀ u, u ∈ c.toList → oneC u = true) :
  Rel w.heap.size G (sg0 P w G) (heapOf L) w :=
 rel0 fun i b hb => by
  obtain ⟨l, h1, rfl⟩ := heapOf_get hb
  obtain ⟨hlt, c, tt, h2, h3, h4⟩ := h _ h1
  exact ⟨hlt, l, c, tt, rfl, h2, h3, h4⟩
theorem NoNum.of {P : Program} (h : (P.funcs.toList.all fun fn => fn.body.isNone || !(fn.name == "runtime.NumGoroutine")) = true) : NoNum P := by
 intro f fn c hf hb hn
 rw [List.all_eq_true] at h
 have := h fn (List.mem_of_getElem? (by rw [Array.getElem?_toList]; exact hf))
 rw [hb, hn] at this
 simp at this
end Go.Ex
