/-
  The abstract machine: a region that draws its order: in whatever order its operations come, they leave what they leave in the order of the text.
-/
import Derived.Test.YtkidamemnogojaaGreatDoorExFrameRule
set_option linter.unusedVariables false
set_option linter.unusedSimpArgs false
namespace Go.Ex

/-- An operation, from a heap that the part 'e.V' of the abstract one stands for. -/
noncomputable def ExecOk (P : Program) (B G : Nat) (ops : Array Oper) (sz : Nat) (tm : Nat → Option AV) (k : Nat) (o : Oper) (e : Ent) : Prop :=
  ∀ (σ : Sg) (w : World) (a : Act) (tm' : Tr AV), RT σ sz tm' a.tmps → (∀ t, t ∈ o.looksAt ops → tm'.get t = tm t) → Rel B G σ e.V w → B ≤ w.heap.size → Fresh σ e.nx e.nx' →
    ∀ (b : Frame) (rest : List Nat) (K : List Item) (cs : List Frame), ∃ τ w' v, Steps P (lone (b.atR a (.inRegion ops (k :: rest) :: K)) cs w) (lone (b.atR (a.put o.dst v) (.inRegion ops rest :: K)) cs w') ∧
      Rv τ e.v v ∧ Rel B G τ (app e.dl e.V) w' ∧ Ext σ τ e.V (app e.dl e.V) e.nx e.nx' w w'

structure Region' (P : Program) (B G : Nat) (hp0 : Tr Blk) (tm0 : Tr AV) (ops : Array Oper) (bs : Nat → Nat) (W : Nat → Ent) (sz nx0 nxn : Nat) : Prop where
  facts : Facts hp0 tm0 ops bs W ops.size
  exec : ∀ (k : Nat) (o : Oper), ops[k]? = some o → ExecOk P B G ops sz (tmD tm0 W (fun m => (ops[m]?).bind (·.dst)) allD k) k o (W k)
  nxs : ∀ k, k < ops.size → nx0 ≤ (W k).nx ∧ (W k).nx ≤ (W k).nx' ∧ (W k).nx' ≤ nxn
  nxd : ∀ j k, j < k → k < ops.size → (W j).nx' ≤ (W k).nx
  dsts : ∀ (k : Nat) (o : Oper) (d : Tmp), ops[k]? = some o → o.dst = some d → d < sz

/-- Behind some of the operations. -/
structure Mid (B G : Nat) (hp0 : Tr Blk) (tm0 : Tr AV) (ops : Array Oper) (W : Nat → Ent) (sz nx0 nxn : Nat) (σ0 : Sg) (w0 : World) (D : Nat → Bool) (σ : Sg) (a : Act) (w : World) : Prop where
  ex : ∃ (H : Tr Blk) (T : Tr AV), (∀ x, H.get x = hpD hp0 W D ops.size x) ∧ (∀ t, T.get t = tmD tm0 W (fun m => (ops[m]?).bind (·.dst)) D ops.size t) ∧ RT σ sz T a.tmps ∧ Rel B G σ H w ∧ Ext σ0 σ hp0 H nx0 nxn w0 w
  fresh : ∀ k, k < ops.size → D k = false → Fresh σ (W k).nx (W k).nx'

section
variable {P : Program} {B G : Nat} {hp0 : Tr Blk} {tm0 : Tr AV} {ops : Array Oper} {bs : Nat → Nat} {W : Nat → Ent} {sz nx0 nxn : Nat} {σ0 : Sg} {w0 : World}

theorem mid_step (hR : Region' P B G hp0 tm0 ops bs W sz nx0 nxn) (hB : B ≤ w0.heap.size) {D : Nat → Bool} {σ : Sg} {a : Act} {w : World} (h : Mid B G hp0 tm0 ops W sz nx0 nxn σ0 w0 D σ a w)
    (hcl : ∀ m, m < ops.size → D m = true → ∀ j, Nat.testBit (bs m) j = true → D j = true) {k : Nat} {o : Oper} (ho : ops[k]? = some o) (hD : D k = false) (hb : ∀ j, Nat.testBit (bs k) j = true → D j = true)
    (b : Frame) (rest : List Nat) (K : List Item) (cs : List Frame) :
    ∃ τ a' w', Steps P (lone (b.atR a (.inRegion ops (k :: rest) :: K)) cs w) (lone (b.atR a' (.inRegion ops rest :: K)) cs w') ∧ Mid B G hp0 tm0 ops W sz nx0 nxn σ0 w0 (addD D k) τ a' w' ∧ a'.defers = a.defers := by
  have hk : k < ops.size := (Array.getElem?_eq_some_iff.1 ho).1
  obtain ⟨⟨H, T, h1, h2, h3, h4, h5⟩, hfr⟩ := h
  have hdst : ∀ (m : Nat) (o : Oper), ops[m]? = some o → (fun m => (ops[m]?).bind (·.dst)) m = o.dst := fun m o ho => by simp [ho]
  have hV : ∀ x c, (W k).V.get x = some c → H.get x = some c := fun x c hx => by rw [h1]; exact view_in hR.facts hcl hk hD hb hx
  obtain ⟨τ, w', v, k1, k2, k3, k4⟩ := hR.exec k o ho σ w a T h3 (fun t ht => by rw [h2]; exact tm_in hdst (Nat.le_refl _) hR.facts hcl hk hD hb ho ht) (h4.part hV) (Nat.le_trans hB h5.size) (hfr k hk hD) b rest K cs
  obtain ⟨g1, g2⟩ := h4.frame hV k3 k4
  obtain ⟨n1, n2, n3⟩ := hR.nxs k hk
  refine ⟨τ, a.put o.dst v, w', k1, ⟨⟨app (W k).dl H, (match o.dst with | some d => T.set d (some (W k).v) | none => T), fun x => ?_, fun t => ?_, ?_, g1, h5.both (g2.widen n1 n3)⟩, fun j hj hDj => ?_⟩, ?_⟩
  · rw [app_get, after_hp hR.facts hcl hk hD, h1]; cases look (W k).dl x <;> rfl
  · rw [after_tm hdst (Nat.le_refl _) hR.facts hcl hk hD, ← h2]
    simp only [ho, Option.bind_some]
    cases hd : o.dst with
    | none => simp
    | some d =>
      simp only [Option.some.injEq, Tr.get_set]
      by_cases e : t = d
      · subst e; simp
      · simp [e, Ne.symm e]
  · cases hd : o.dst with
    | none => exact h3.mono k4.sub
    | some d => exact (h3.mono k4.sub).set (hR.dsts k o d ho hd) k2
  · have hjk : j ≠ k := fun e => by subst e; simp [addD, beq_t] at hDj
    have hDj' : D j = false := by simpa [addD, beq_f hjk] using hDj
    intro i hi1 hi2
    have h0 := hfr j hj hDj' i hi1 hi2
    cases ht : τ i with
    | none => rfl
    | some L =>
      rcases k4.dom i L ht with e | ⟨e1, e2⟩
      · rw [h0] at e; cases e
      · rcases Nat.lt_or_gt_of_ne hjk with hlt | hlt
        · have := hR.nxd j k hlt hk; omega
        · have := hR.nxd k j hlt hj; omega
  · cases o.dst <;> rfl

theorem Mid.congr {D D' : Nat → Bool} {σ : Sg} {a : Act} {w : World} (h : Mid B G hp0 tm0 ops W sz nx0 nxn σ0 w0 D σ a w) (he : ∀ k, k < ops.size → D' k = D k) : Mid B G hp0 tm0 ops W sz nx0 nxn σ0 w0 D' σ a w := by
  obtain ⟨⟨H, T, h1, h2, h3, h4, h5⟩, hfr⟩ := h
  exact ⟨⟨H, T, fun x => by rw [h1]; exact (hpD_congr x _ fun j hj => ⟨rfl, he j hj⟩).symm, fun t => by rw [h2]; exact (tmD_congr t _ fun j hj => ⟨rfl, he j hj⟩).symm, h3, h4, h5⟩, fun k hk hD => hfr k hk (by rw [← he k hk]; exact hD)⟩

/-- How many are not yet done. -/
noncomputable def left (listed : Array Bool) : Nat := listed.toList.countP (· == false)

theorem left_set {listed : Array Bool} {i : Nat} (h : listed.getD i true = false) : left (listed.setIfInBounds i true) + 1 = left listed := by
  have hi : i < listed.size := by
    rcases Nat.lt_or_ge i listed.size with h' | h'
    · exact h'
    · simp [Array.getElem?_eq_none h'] at h
  have hv : listed.toList[i]'(by simpa using hi) = false := by simpa [hi] using h
  unfold left
  rw [Array.toList_setIfInBounds, List.countP_set (by simpa using hi), hv]
  have : 0 < List.countP (· == false) listed.toList := List.countP_pos_iff.2 ⟨false, by rw [← hv]; exact List.getElem_mem _, rfl⟩
  have e1 : (false == false) = true := rfl
  have e2 : (true == false) = false := rfl
  simp only [e1, e2, if_true, Bool.false_eq_true, if_false]
  omega

/-- Every edge that binds goes back in the text. -/
noncomputable def Back (ops : Array Oper) : Prop := ∀ (k : Nat) (o : Oper), ops[k]? = some o → ∀ e ∈ o.after, Region.binds .any e = true → e.on < k

theorem ready_some (hb : Back ops) {listed : Array Bool} (hs : listed.size = ops.size) {k : Nat} (hk : listed.getD k true = false) : ∃ i, i ∈ Region.ready .any ops listed := by
  induction k using Nat.strongRecOn with
  | _ k ih =>
    have hlt : k < ops.size := by
      rcases Nat.lt_or_ge k listed.size with h' | h'
      · omega
      · simp [Array.getElem?_eq_none h'] at hk
    by_cases hr : k ∈ Region.ready .any ops listed
    · exact ⟨k, hr⟩
    · have hok : ops[k]? = some (ops[k]'hlt) := by simp [hlt]
      have : ∃ e ∈ (ops[k]'hlt).after, Region.binds .any e = true ∧ listed.getD e.on false = false := by
        refine Classical.byContradiction fun hn => hr (mem_ready.2 ⟨hk, _, hok, fun e he hbd => ?_⟩)
        cases hl : listed.getD e.on false with
        | true => rfl
        | false => exact absurd ⟨e, he, hbd, hl⟩ hn
      obtain ⟨e, he, hbd, hl⟩ := this
      have hlt' := hb k _ hok e he hbd
      refine ih e.on hlt' ?_
      have : e.on < listed.size := by omega
      simpa [this] using hl

theorem order_ok (hR : Region' P B G hp0 tm0 ops bs W sz nx0 nxn) (hB : B ≤ w0.heap.size) (hbk : Back ops) (hbs : ∀ (k : Nat) (o : Oper), ops[k]? = some o → ∀ j, Nat.testBit (bs k) j = true → ∃ e ∈ o.after, Region.binds .any e = true ∧ (j = e.on ∨ Nat.testBit (bs e.on) j = true))
    (b : Frame) (K : List Item) (cs : List Frame) : ∀ (fuel t : Nat) (listed : Array Bool) (σ : Sg) (a : Act) (w : World), listed.size = ops.size → left listed ≤ fuel →
      (∀ m, m < ops.size → listed.getD m true = true → ∀ j, Nat.testBit (bs m) j = true → listed.getD j true = true) →
      Mid B G hp0 tm0 ops W sz nx0 nxn σ0 w0 (fun m => listed.getD m true) σ a w →
      ∃ τ a' w', Steps P (lone (b.atR a (.inRegion ops (Region.linearise.go .any ops fuel t listed []) :: K)) cs w) (lone (b.atR a' (.inRegion ops [] :: K)) cs w') ∧ Mid B G hp0 tm0 ops W sz nx0 nxn σ0 w0 allD τ a' w' ∧ a'.defers = a.defers := by
  intro fuel
  induction fuel with
  | zero =>
    intro t listed σ a w hs hl hcl hm
    simp only [Region.linearise.go, List.reverse_nil]
    refine ⟨σ, a, w, .refl .., hm.congr fun k hk => ?_, rfl⟩
    show true = listed.getD k true
    have h0 : left listed = 0 := by omega
    have hk' : k < listed.size := by omega
    unfold left at h0
    rw [List.countP_eq_zero] at h0
    have := h0 (listed.toList[k]'(by simpa using hk')) (List.getElem_mem _)
    simpa [hk'] using this
  | succ fuel ih =>
    intro t listed σ a w hs hl hcl hm
    simp only [Region.linearise.go]
    change ∃ τ a' w', Steps P (lone (b.atR a (.inRegion ops (match (Region.ready .any ops listed)[t % (Region.ready .any ops listed).length]? with
      | some i => Region.linearise.go .any ops fuel (t / (Region.ready .any ops listed).length) (listed.setIfInBounds i true) [i]
      | none => [].reverse) :: K)) cs w) (lone (b.atR a' (.inRegion ops [] :: K)) cs w') ∧ Mid B G hp0 tm0 ops W sz nx0 nxn σ0 w0 allD τ a' w' ∧ a'.defers = a.defers
    cases hi : (Region.ready .any ops listed)[t % (Region.ready .any ops listed).length]? with
    | none =>
      have hnil : Region.ready .any ops listed = [] := by
        cases hr : Region.ready .any ops listed with
        | nil => rfl
        | cons x xs =>
          rw [hr] at hi
          have hlt : t % (x :: xs).length < (x :: xs).length := Nat.mod_lt _ (by simp)
          simp at hi
          simp at hlt
          omega
      simp only [List.reverse_nil]
      refine ⟨σ, a, w, .refl .., hm.congr fun k hk => ?_, rfl⟩
      show true = listed.getD k true
      cases hq : listed.getD k true with
      | true => rfl
      | false => obtain ⟨i, hi⟩ := ready_some hbk hs hq; rw [hnil] at hi; cases hi
    | some i =>
      simp only []
      rw [linearise_go_acc, List.reverse_singleton, List.singleton_append]
      obtain ⟨hun, o, ho, hall⟩ := mem_ready.1 (List.mem_of_getElem? hi)
      have hilt : i < ops.size := (Array.getElem?_eq_some_iff.1 ho).1
      have hup : ∀ e ∈ o.after, Region.binds .any e = true → listed.getD e.on true = true := fun e he hbd => by
        have h1 := hall e he hbd
        have : e.on < listed.size := by
          rcases Nat.lt_or_ge e.on listed.size with h' | h'
          · exact h'
          · simp [Array.getElem?_eq_none h'] at h1
        simpa [this] using h1
      have hbi : ∀ j, Nat.testBit (bs i) j = true → listed.getD j true = true := fun j hj => by
        obtain ⟨e, he, hbd, h1 | h1⟩ := hbs i o ho j hj
        · rw [h1]; exact hup e he hbd
        · exact hcl e.on (by have := hbk i o ho e he hbd; omega) (hup e he hbd) j h1
      obtain ⟨τ, a1, w1, s1, m1, d1⟩ := mid_step hR hB hm hcl ho hun hbi b (Region.linearise.go .any ops fuel (t / (Region.ready .any ops listed).length) (listed.setIfInBounds i true) []) K cs
      have hset : ∀ m, (listed.setIfInBounds i true).getD m true = addD (fun m => listed.getD m true) i m := by
        intro m
        by_cases e : m = i
        · subst e; simp [addD, beq_t, show m < listed.size by omega]
        · rw [getD_set_ne true (Ne.symm e)]; simp [addD, beq_f e]
      obtain ⟨υ, a2, w2, s2, m2, d2⟩ := ih (t / (Region.ready .any ops listed).length) (listed.setIfInBounds i true) τ a1 w1 (by simpa using hs) (by have := left_set hun; omega)
        (fun m hm' h1 j hj => by
          rw [hset] at h1 ⊢
          have h2 : listed.getD j true = true := by
            by_cases e : m = i
            · subst e; exact hbi j hj
            · simp only [addD, beq_f e, cond_false] at h1; exact hcl m hm' h1 j hj
          simp only [addD, h2]; cases Nat.beq j i <;> rfl)
        (m1.congr fun k _ => hset k)
      exact ⟨υ, a2, w2, s1.trans s2, m2, d2.trans d1⟩
end
end Go.Ex
