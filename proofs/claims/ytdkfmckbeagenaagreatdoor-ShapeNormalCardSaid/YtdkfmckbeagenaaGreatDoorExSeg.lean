/-
  The abstract machine: a run in parts, each of which the kernel runs by itself.
-/
import Derived.Test.YtdkfmckbeagenaaGreatDoorExLaid
import Derived.Test.YtdkfmckbeagenaaGreatDoorExStep2
set_option linter.unusedVariables false
set_option linter.unusedSimpArgs false
namespace Go.Ex

section
variable (P : Program) (G : Nat) (X : FuncId → Option ExtK)

noncomputable def oneK (J : FuncId → Bool) (rn : St → Option (AV × St)) (s : St) : Option St :=
 match stpF P G X s with
 | .go s' => bif J s'.fr.fn && Nat.blt s.cs.length s'.cs.length then
   match s'.cs with
   | c :: cs => match rn { s' with cs := [] } with
    | some (v, s2) => bif isStopV v then none else match finishA c v with
     | some c' => some { s2 with fr := c', cs }
     | none => none
    | none => none
   | [] => none
  else some s'
 | .draw ops k => bif backA ops 0 ops.toList then
   drawA P G X rn ops (Region.before ops) ops.toList 0 [] { s with fr := { s.fr with todo := .inReg ops 0 ops.toList :: k } }
  else none
 | _ => none
noncomputable def runTo (J : FuncId → Bool) (n m : Nat) : St → Option St :=
 Nat.rec (motive := fun _ => St → Option St) (fun s => some s) (fun _ r s => match oneK P G X J (run P G X J n) (fastS P G s) with
  | some s' => r s'
  | none => none) m
end

section
variable {Κ : List Item} {P : Program} {G : Nat} {X : FuncId → Option ExtK} {J : FuncId → Bool}

def Leads (P : Program) (G : Nat) (s s1 : St) : Prop := Low s.hp s.nx → Keeps s s1 ∧
 ∀ (Κ : List Item) (B : Nat) (σ : Sg) (rd : Option Nat) (fn : FuncId) (ro : Option Nat) (a : Act) (k : List Item) (cs cs0 : List Frame) (w : World), RSt Κ B G σ s rd fn ro a k cs w → Fresh σ s.nx s1.nx → Goes Κ P B G σ s rd fn (lone (mkF s.fr ro a k) (cs ++ cs0) w) cs0 w s1
theorem Leads.refl (s : St) : Leads P G s s := fun hl => ⟨.of hl rfl rfl rfl rfl, fun Κ B σ rd fn ro a k cs cs0 w hR _ => ⟨σ, ro, a, k, cs, w, .refl _ _, hR, .refl ..⟩⟩
theorem Leads.trans {s s1 s2 : St} (h : Leads P G s s1) (k : Leads P G s1 s2) : Leads P G s s2 := fun hl => by
 obtain ⟨h1, h2⟩ := h hl
 obtain ⟨k1, k2⟩ := k h1.low
 refine ⟨h1.trans k1, fun Κ B σ rd fn ro a kk cs cs0 w hR hf => ?_⟩
 obtain ⟨τ, ro', a', k', cs', w', st, hR', hext⟩ := h2 Κ B σ rd fn ro a kk cs cs0 w hR fun i h3 h4 => hf i h3 (Nat.lt_of_lt_of_le h4 k1.le)
 have hf' : Fresh τ s1.nx s2.nx := fun i h3 h4 => by
  cases ht : τ i with
  | none => rfl
  | some L =>
   rcases hext.dom i L ht with e | ⟨_, e⟩
   ·rw [hf i (Nat.le_trans h1.le h3) h4] at e; cases e
   ·omega
 obtain ⟨υ, ro2, a2, k3, cs2, w2, st2, R2, e2⟩ := k2 Κ B τ rd fn ro' a' k' cs' cs0 w' hR' hf'
 exact ⟨υ, ro2, a2, k3, cs2, w2, st.trans st2, R2, hext.trans e2⟩
theorem fast_leads (hN : NoNum P) (hX : XOk P X) (s : St) : Leads P G s (fastS P G s) := fun hl =>
 ⟨(fastS_ok (Κ := []) (G := G) hN hX s hl).1, fun Κ B σ rd fn ro a k cs cs0 w hR hf => (fastS_ok (Κ := Κ) (G := G) hN hX s hl).2 B σ rd fn ro a k cs cs0 w hR hf⟩
theorem one_leads (hN : NoNum P) (hX : XOk P X) (hm : P.follows .mixedOrders = true) {rn : St → Option (AV × St)} (ih : RunOk P G rn) {s sN : St} (h : oneK P G X J rn s = some sN) : Leads P G s sN := by
 intro hl
 unfold oneK at h
 rw [stpF_eq] at h
 have hkp := stp_keeps (P := P) (G := G) (X := X) hl
 have hok := fun (Κ : List Item) (B : Nat) (σ : Sg) (rd : Option Nat) (fn : FuncId) (ro : Option Nat) (a : Act) (k : List Item) (cs cs0 : List Frame) (w : World) (hR : RSt Κ B G σ s rd fn ro a k cs w) => stp_ok (cs0 := cs0) hN hX hR
 split at h
 ·rename_i s1 hs1
  rw [hs1] at hkp
  have hkp : Keeps s s1 := hkp
  have hgo : ∀ (Κ : List Item) (B : Nat) (σ : Sg) (rd : Option Nat) (fn : FuncId) (ro : Option Nat) (a : Act) (k : List Item) (cs cs0 : List Frame) (w : World), RSt Κ B G σ s rd fn ro a k cs w → Fresh σ s.nx s1.nx → Goes Κ P B G σ s rd fn (lone (mkF s.fr ro a k) (cs ++ cs0) w) cs0 w s1 := fun Κ B σ rd fn ro a k cs cs0 w hR hf => by
   have := hok Κ B σ rd fn ro a k cs cs0 w hR
   rw [hs1] at this
   exact this hf
  rcases cond_eq_some h with ⟨_, h'⟩ | ⟨_, h'⟩ <;> clear h
  ·split at h'
   ·rename_i c cs1 hcs1
    split at h'
    ·rename_i v2 s2 hr2
     rcases cond_eq_some h' with ⟨_, h⟩ | ⟨hv2, h⟩ <;> clear h'
     ·cases h
     split at h
     ·rename_i c' hc'
      simp only [Option.some.injEq] at h; subst h
      obtain ⟨hk2, hends⟩ := ih { s1 with cs := [] } v2 s2 hr2 hkp.low
      have hk2' : Keeps s1 s2 := ⟨hk2.low, hk2.le, hk2.lb, hk2.wl, hk2.wlb, hk2.same⟩
      refine ⟨(hkp.trans hk2').trans (.of hk2.low rfl rfl rfl rfl), fun Κ B σ rd fn ro a k cs cs0 w hR hf2 => ?_⟩
      have hf2 : Fresh σ s.nx s2.nx := hf2
      obtain ⟨τ, ro1, a1, k1, csm, w1, hst, hR1, hext⟩ := hgo Κ B σ rd fn ro a k cs cs0 w hR fun i h1 h2 => hf2 i h1 (Nat.lt_of_lt_of_le h2 hk2.le)
      obtain ⟨f, csr, rfl⟩ : ∃ f csr, csm = f :: csr := by
       have := hR1.cs
       rw [hcs1] at this
       cases this
       exact ⟨_, _, rfl⟩
      have hft : Fresh τ s1.nx s2.nx := fun i h1 h2 => by
       cases ht : τ i with
       | none => rfl
       | some L =>
        rcases hext.dom i L ht with e | ⟨_, e⟩
        ·rw [hf2 i (Nat.le_trans hkp.le h1) h2] at e; cases e
        ·omega
      obtain ⟨υ, w2, u, g1, g2, g3, g4, _⟩ := (hends Κ B τ s1.fr.rd s1.fr.fn ro1 a1 k1 [] (f :: (csr ++ cs0)) w1 ⟨hR1.fr, .nil, hR1.rel, hR1.big, rfl, rfl⟩ hft).2 hv2
      have hg4 : Steps P (lone (mkF s1.fr ro1 a1 k1) (f :: csr ++ cs0) w1) (lone (f.finish u) (csr ++ cs0) w2) := g4 f (csr ++ cs0) rfl
      obtain ⟨υ', ro2, a2, k2, cs2, w3, st2, R2, e2⟩ := goes_pop (cs0 := cs0) (m := lone (mkF s1.fr ro1 a1 k1) (f :: csr ++ cs0) w1) (s1 := s2) hR1 hcs1 hc' g2 g3 g1 fun f' cs' e => by
       cases e; exact hg4
      exact ⟨υ', ro2, a2, k2, cs2, w3, hst.trans st2, R2, hext.trans e2⟩
     ·cases h
    ·cases h'
   ·cases h'
  ·simp only [Option.some.injEq] at h'; subst h'
   exact ⟨hkp, hgo⟩
 ·rename_i ops k0 hs1
  rcases cond_eq_some h with ⟨hb, h'⟩ | ⟨_, h'⟩
  ·exact ⟨(region_ok (Κ := []) ih hN hX hm hs1 hb h' hl).1, fun Κ B σ rd fn ro a k cs cs0 w hR hf => (region_ok (Κ := Κ) ih hN hX hm hs1 hb h' hl).2 B σ rd fn ro a k cs cs0 w hR hf⟩
  ·cases h'
 ·cases h
theorem runTo_leads (hN : NoNum P) (hX : XOk P X) (hm : P.follows .mixedOrders = true) {n : Nat} : ∀ (m : Nat) {s s1 : St}, runTo P G X J n m s = some s1 → Leads P G s s1 := by
 intro m
 induction m with
 | zero =>
  intro s s1 h
  have h : some s = some s1 := h
  simp only [Option.some.injEq] at h; subst h
  exact .refl s
 | succ m ih =>
  intro s s1 h
  have h : (match oneK P G X J (run P G X J n) (fastS P G s) with
   | some s' => runTo P G X J n m s'
   | none => none) = some s1 := h
  split at h
  ·rename_i s' hs'
   exact (fast_leads hN hX s).trans ((one_leads hN hX hm (run_ok hN hX hm n) hs').trans (ih h))
  ·cases h
theorem calls_parts {f : FuncId} {args : List AV} {vs : Array Value} {fr : Fr} {hp : Tr Blk} {nx lb n : Nat} {wl : List Nat} {s1 s' : St} {v : AV} {B : Nat} {σ : Sg} {w : World} (hN : NoNum P) (hX : XOk P X) (hm : P.follows .mixedOrders = true) (hv : isStopV v = false)
  (hent : enterA P f args = some fr) (hlead : Leads P G { fr, cs := [], hp, nx, lb, wl } s1) (hrun : run P G X J n s1 = some (v, s')) (hlow : Low hp nx) (ha : RL σ args vs.toList) (hrel : Rel B G σ hp w) (hB : B ≤ w.heap.size) (hf : Fresh σ nx s'.nx) :
  Calls P f vs w fun e w' => ∃ u τ, e = .returned u ∧ Rv τ v u ∧ Rel B G τ s'.hp w' ∧ Ext σ τ hp s'.hp nx s'.nx w w' := by
 intro cs
 obtain ⟨fnn, cc, a, h1, h2, h3, h4, h5, h6, h7⟩ := enter_ok (Κ := []) hent ha
 obtain ⟨k1, k2⟩ := hlead hlow
 obtain ⟨r1, r2⟩ := run_ok (G := G) (J := J) hN hX hm n _ _ _ hrun k1.low
 have hfin := fin_next (Κ := []) k1.le r1.le (fun B σ rd fn ro a k cs cs0 w => r2 [] B σ rd fn ro a k cs cs0 w) B σ fr.rd fr.fn cs w _ (k2 [] B σ fr.rd fr.fn none a [.code cc] [] cs w ⟨h4, .nil, hrel, hB, rfl, rfl⟩) hf
 obtain ⟨τ, w', u, g1, g2, g3, _, g5⟩ := hfin.2 hv
 obtain ⟨fr', k3, k4, k5⟩ := g5 h6
 refine ⟨.returned u, w', fr', ⟨u, τ, rfl, g1, g2, g3⟩, ?_, k5.trans h7, k4⟩
 have k3 : Steps P (lone (mkF fr none a [.code cc]) cs w) (lone fr' cs w') := k3
 rw [mkF_run (by exact h5)] at k3
 rw [h3]
 exact k3
theorem true_parts {f n : Nat} {L : List (Nat × List AV)} {args : List AV} {fr : Fr} {s1 : St} (hN : NoNum P) (hX : XOk P X) (hm : P.follows .mixedOrders = true) (hent : enterA P f args = some fr) (hL : ∀ p ∈ L, p.1 < G)
  (hlead : Leads P G { fr, cs := [], hp := heapOf L, nx := G, lb := 0, wl := [] } s1) (hrun : (match run P G X J n s1 with | some (.bool b, _) => b | _ => false) = true)
  {σ : Sg} {w : World} {vs : Array Value} (ha : RL σ args vs.toList) (hrel : Rel w.heap.size G σ (heapOf L) w) (hf : ∀ i, G ≤ i → σ i = none) :
  Calls P f vs w fun e w' => e = .returned (.bool true) ∧ RowKit.Below w.heap.size w w' := by
 split at hrun
 ·rename_i b s' hr
  subst hrun
  refine (calls_parts (J := J) hN hX hm rfl hent hlead hr (heapOf_low hL) ha hrel (Nat.le_refl _) (fun i h _ => hf i h)).mono fun e w' h => ?_
  obtain ⟨u, τ, rfl, h1, h2, h3⟩ := h
  rw [h1.inv_bool]
  exact ⟨rfl, h3.below hrel (Nat.le_refl _)⟩
 ·cases hrun
end

noncomputable section
def keepT (hp : Tr Blk) (l : List Nat) : Tr Blk → Tr Blk := List.rec (motive := fun _ => Tr Blk → Tr Blk) (fun acc => acc) (fun x _ f acc => f (acc.set x (hp.get x))) l
def keepS (l : List Nat) (s : St) : St := ⟨s.fr, s.cs, keepT s.hp l .lf, s.nx, s.lb, s.wl⟩
def keepR (l : List Nat) : Option St → Option St
 | some s => some (keepS l s)
 | none => none
def navC : List Nat → Code → Code
 | [], c => c
 | 0 :: p, .seq a _ => navC p a
 | 1 :: p, .seq _ b => navC p b
 | 0 :: p, .cond _ a _ => navC p a
 | 1 :: p, .cond _ _ b => navC p b
 | 0 :: p, .block _ b => navC p b
 | 0 :: p, .loop b => navC p b
 | 0 :: p, .scope b => navC p b
 | _, c => c
def bodyOf (P : Program) (f : FuncId) : Code := match P.funcs[f]? with
 | some fn => match fn.body with
  | some c => c
  | none => .skip
 | none => .skip
end

theorem keep_get {hp : Tr Blk} {x : Nat} {b : Blk} : ∀ {l : List Nat} {acc : Tr Blk}, (keepT hp l acc).get x = some b → acc.get x = some b ∨ hp.get x = some b := by
 intro l
 induction l with
 | nil => exact fun h => .inl h
 | cons y l ih =>
  intro acc h
  have h : (keepT hp l (acc.set y (hp.get y))).get x = some b := h
  rcases ih h with h | h
  ·by_cases e : x = y
   ·subst e
    rw [Tr.get_set_same] at h
    exact .inr h
   ·rw [Tr.get_set_other _ _ e] at h
    exact .inl h
  ·exact .inr h
theorem keep_part {hp : Tr Blk} {l : List Nat} {x : Nat} {b : Blk} (h : (keepT hp l .lf).get x = some b) : hp.get x = some b := by
 rcases keep_get h with h | h
 ·cases hq : pathOf x <;> (simp only [Tr.get, hq] at h; cases h)
 ·exact h
section
variable {P : Program} {G : Nat} {X : FuncId → Option ExtK} {J : FuncId → Bool}
theorem Leads.part {s s1 : St} {hp : Tr Blk} (h : Leads P G s s1) (h0 : s1.lb = 0) (hs : ∀ x b, hp.get x = some b → s1.hp.get x = some b) : Leads P G s ⟨s1.fr, s1.cs, hp, s1.nx, s1.lb, s1.wl⟩ := h.trans fun hl =>
 ⟨⟨low_part hl hs,
  Nat.le_refl _, rfl, fun _ hx => hx, fun _ hx => .inl hx, fun x hx => by rw [h0] at hx; omega⟩,
  fun Κ B σ rd fn ro a k cs cs0 w hR _ => ⟨σ, ro, a, k, cs, w, .refl _ _, ⟨hR.fr, hR.cs, hR.rel.part hs, hR.big, hR.bot⟩,
   ⟨.refl σ, fun _ _ h => .inl h, Nat.le_refl _, rfl, rfl, rfl, Nat.le_refl _, fun _ _ _ => rfl, fun i b k z hb hk => .inl ⟨i, b, z, hs i b hb, hk, fun e => e⟩⟩⟩⟩
theorem part_keeps {l : List Nat} (hN : NoNum P) (hX : XOk P X) (hm : P.follows .mixedOrders = true) {n m : Nat} {s s1 : St} (h : keepR l (runTo P G X J n m s) = some s1) (h0 : s1.lb = 0) : Leads P G s s1 := by
 unfold keepR at h
 split at h
 ·rename_i s2 hs
  simp only [Option.some.injEq] at h; subst h
  exact (runTo_leads hN hX hm m hs).part h0 fun _ _ hx => keep_part hx
 ·cases h
end
end Go.Ex
