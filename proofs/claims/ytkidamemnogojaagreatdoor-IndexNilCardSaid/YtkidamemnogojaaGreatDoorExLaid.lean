/-
  The abstract machine: package-level variables that a row lists.
-/
import Derived.Test.YtkidamemnogojaaGreatDoorExMain
import Derived.Lib.LaidTab
set_option linter.unusedVariables false
set_option linter.unusedSimpArgs false
namespace Go.Ex

section
variable (P : Program) (rec : TypeId → DataW Unit → Option (List AV))
noncomputable def flatFs : List Field → List (DataW Unit) → Nat → Option (List AV)
  | [], [], _ => some []
  | f :: fs, d :: ds, off => bif Nat.beq f.offset off then match rec f.type d with
    | some l => bif Nat.beq l.length (P.cellsOf f.type) then match flatFs fs ds (off + l.length) with
      | some r => some (l ++ r)
      | none => none
      else none
    | none => none
    else none
  | _, _, _ => none
noncomputable def flatEs (e : TypeId) : List (DataW Unit) → Option (List AV)
  | [] => some []
  | d :: ds => match rec e d with
    | some l => bif Nat.beq l.length (P.cellsOf e) then match flatEs e ds with
      | some r => some (l ++ r)
      | none => none
      else none
    | none => none
end

/-- The cells of a variable that reads as a datum. -/
noncomputable def flatD (P : Program) : Nat → TypeId → DataW Unit → Option (List AV)
  | 0, _, _ => none
  | n + 1, t, d => match P.underlying t, d with
    | some .bool, .lit (.bool b) => some [.bool b]
    | some (.int k), .lit (.int _ z) => some [.int k z]
    | some .string, .lit (.string bs) => some [.str (bs.map UInt8.toNat)]
    | some (.struct fs), .agg ds => match flatFs P (flatD P n) fs.toList ds 0 with
      | some l => bif Nat.beq l.length (P.cellsOf t) then some l else none
      | none => none
    | some (.array m e), .agg ds => bif Nat.beq ds.length m then match flatEs P (flatD P n) e ds with
      | some l => bif Nat.beq l.length (P.cellsOf t) then some l else none
      | none => none
      else none
    | _, _ => none

section
variable {P : Program} {σ : Sg} {w : World} {base : Nat} {sp : Nat → Bool} {enc : TypeId × Value → Unit}

noncomputable def FlatOk (P : Program) (σ : Sg) (w : World) (base : Nat) (sp : Nat → Bool) (enc : TypeId × Value → Unit) (rec : TypeId → DataW Unit → Option (List AV)) : Prop :=
  ∀ t d l, rec t d = some l → ∀ fuel cs p, DataW.trod enc P w base sp false fuel t cs = some (d, p) → RL σ l cs ∧ ∀ u, u ∈ cs → oneC u = true

theorem piece {l r : List AV} {cs : List Value} {off : Nat} (h1 : RL σ l ((cs.drop off).take l.length) ∧ ∀ u, u ∈ (cs.drop off).take l.length → oneC u = true) (h2 : RL σ r ((cs.drop (off + l.length)).take r.length) ∧ ∀ u, u ∈ (cs.drop (off + l.length)).take r.length → oneC u = true) :
    RL σ (l ++ r) ((cs.drop off).take (l ++ r).length) ∧ ∀ u, u ∈ (cs.drop off).take (l ++ r).length → oneC u = true := by
  have e : (cs.drop off).take (l ++ r).length = (cs.drop off).take l.length ++ (cs.drop (off + l.length)).take r.length := by
    rw [List.length_append, List.take_add, List.drop_drop]
  rw [e]
  exact ⟨h1.1.append h2.1, fun u hu => by
    rcases List.mem_append.1 hu with h | h
    · exact h1.2 u h
    · exact h2.2 u h⟩

theorem mapM_cons_some {α β : Type} {f : α → Option β} {x : α} {l : List α} {r : List β} (h : (x :: l).mapM f = some r) : ∃ y r', f x = some y ∧ l.mapM f = some r' ∧ r = y :: r' := by
  simp only [List.mapM_cons, Option.bind_eq_bind, Option.bind_eq_some_iff, Option.pure_def, Option.some.injEq] at h
  obtain ⟨y, hy, r', hr', rfl⟩ := h
  exact ⟨y, r', hy, hr', rfl⟩

theorem flatFs_ok {rec : TypeId → DataW Unit → Option (List AV)} (hrec : FlatOk P σ w base sp enc rec) {cs : List Value} {fuel : Nat} : ∀ (fs : List Field) (ds : List (DataW Unit)) (off : Nat) (l : List AV), flatFs P rec fs ds off = some l →
    ∀ xs, (fs.mapM fun f => DataW.trod enc P w base sp false fuel f.type ((cs.drop f.offset).take (P.cellsOf f.type))) = some xs → xs.map (·.1) = ds →
    RL σ l ((cs.drop off).take l.length) ∧ ∀ u, u ∈ (cs.drop off).take l.length → oneC u = true := by
  intro fs
  induction fs with
  | nil =>
    intro ds off l h xs _ _
    cases ds with
    | nil => simp [flatFs] at h; subst h; exact ⟨by simpa using RL.nil, by simp⟩
    | cons d ds => simp [flatFs] at h
  | cons f fs ih =>
    intro ds off l h xs hx hd
    obtain ⟨y, xs', h1, h2, rfl⟩ := mapM_cons_some hx
    cases ds with
    | nil => simp [flatFs] at h
    | cons d ds =>
      simp only [List.map_cons, List.cons.injEq] at hd
      simp only [flatFs] at h
      rcases cond_eq_some h with ⟨hq, h'⟩ | ⟨_, h'⟩ <;> clear h
      · have hoff := beq_iff.1 hq
        split at h'
        · rename_i l1 hl1
          rcases cond_eq_some h' with ⟨hq2, h⟩ | ⟨_, h⟩ <;> clear h'
          · have hlen := beq_iff.1 hq2
            split at h
            · rename_i r hr
              simp only [Option.some.injEq] at h; subst h
              obtain ⟨d', p⟩ := y
              simp only at hd
              obtain ⟨rfl, hd2⟩ := hd
              have g1 := hrec _ _ _ hl1 _ _ _ h1
              rw [hoff, ← hlen] at g1
              exact piece g1 (ih ds _ r hr xs' h2 hd2)
            · cases h
          · cases h
        · cases h'
      · cases h'

theorem flatEs_ok {rec : TypeId → DataW Unit → Option (List AV)} (hrec : FlatOk P σ w base sp enc rec) {cs : List Value} {fuel : Nat} {e : TypeId} : ∀ (ds : List (DataW Unit)) (k : Nat) (l : List AV), flatEs P rec e ds = some l →
    ∀ xs, ((List.range' k ds.length).mapM fun i => DataW.trod enc P w base sp false fuel e ((cs.drop (i * P.cellsOf e)).take (P.cellsOf e))) = some xs → xs.map (·.1) = ds →
    RL σ l ((cs.drop (k * P.cellsOf e)).take l.length) ∧ ∀ u, u ∈ (cs.drop (k * P.cellsOf e)).take l.length → oneC u = true := by
  intro ds
  induction ds with
  | nil => intro k l h xs _ _; simp [flatEs] at h; subst h; exact ⟨by simpa using RL.nil, by simp⟩
  | cons d ds ih =>
    intro k l h xs hx hd
    rw [List.length_cons, List.range'_succ] at hx
    obtain ⟨y, xs', h1, h2, rfl⟩ := mapM_cons_some hx
    simp only [List.map_cons, List.cons.injEq] at hd
    simp only [flatEs] at h
    split at h
    · rename_i l1 hl1
      rcases cond_eq_some h with ⟨hq2, h'⟩ | ⟨_, h'⟩ <;> clear h
      · have hlen := beq_iff.1 hq2
        split at h'
        · rename_i r hr
          simp only [Option.some.injEq] at h'; subst h'
          obtain ⟨d', p⟩ := y
          simp only at hd
          obtain ⟨rfl, hd2⟩ := hd
          have g1 := hrec _ _ _ hl1 _ _ _ h1
          have g2 := ih (k + 1) r hr xs' h2 hd2
          rw [← hlen] at g1
          rw [Nat.succ_mul, ← hlen] at g2
          rw [← hlen]
          exact piece g1 g2
        · cases h'
      · cases h'
    · cases h

theorem flatD_ok : ∀ n, FlatOk P σ w base sp enc (flatD P n) := by
  intro n
  induction n with
  | zero => intro t d l h; simp [flatD] at h
  | succ n ih =>
    intro t d l h fuel cs p ht
    cases fuel with
    | zero => simp [DataW.trod] at ht
    | succ fuel =>
      unfold flatD at h
      split at h
      · rename_i b hu
        simp only [Option.some.injEq] at h; subst h
        obtain ⟨b', hc, hx⟩ := DataW.trod_bool hu ht
        simp only [Prod.mk.injEq, DataW.lit.injEq, Lit.bool.injEq] at hx
        rw [hc, hx.1]
        exact ⟨.cons (.bool _) .nil, by simp [oneC]⟩
      · rename_i k k' z hu
        simp only [Option.some.injEq] at h; subst h
        obtain ⟨z', hc, hx, _⟩ := DataW.trod_int hu ht
        simp only [Prod.mk.injEq, DataW.lit.injEq, Lit.int.injEq] at hx
        rw [hc, hx.1.2]
        exact ⟨.cons (.int _ _) .nil, by simp [oneC]⟩
      · rename_i bs hu
        simp only [Option.some.injEq] at h; subst h
        obtain ⟨s', hc, hx, _⟩ := DataW.trod_string hu ht
        simp only [Prod.mk.injEq, DataW.lit.injEq, Lit.string.injEq] at hx
        rw [hc, hx.1]
        exact ⟨.cons (.str s') .nil, by simp [oneC]⟩
      · rename_i fs ds hu
        simp only [DataW.trod, hu] at ht
        split at ht
        · rename_i hlen
          obtain ⟨xs, hx, he⟩ := Option.map_eq_some_iff.1 ht
          simp only [Prod.mk.injEq, DataW.agg.injEq] at he
          split at h
          · rename_i l' hl'
            rcases cond_eq_some h with ⟨hq, h'⟩ | ⟨_, h'⟩
            · simp only [Option.some.injEq] at h'; subst h'
              have := flatFs_ok ih _ _ _ _ hl' xs hx he.1
              rw [beq_iff.1 hq, ← hlen] at this
              simpa using this
            · cases h'
          · cases h
        · cases ht
      · rename_i m e ds hu
        simp only [DataW.trod, hu] at ht
        split at ht
        · rename_i hlen
          obtain ⟨xs, hx, he⟩ := Option.map_eq_some_iff.1 ht
          simp only [Prod.mk.injEq, DataW.agg.injEq] at he
          rcases cond_eq_some h with ⟨hm, h'⟩ | ⟨_, h'⟩ <;> clear h
          · have hm := beq_iff.1 hm
            split at h'
            · rename_i l' hl'
              rcases cond_eq_some h' with ⟨hq, h⟩ | ⟨_, h⟩
              · simp only [Option.some.injEq] at h; subst h
                rw [List.range_eq_range', ← hm] at hx
                have := flatEs_ok ih _ _ _ hl' xs hx he.1
                rw [beq_iff.1 hq, ← hlen] at this
                simpa using this
              · cases h
            · cases h'
          · cases h'
        · cases ht
      · cases h

/-- A variable that the list names. -/
theorem laid_var {laid : List (String × DataW Unit)} (h : laidMet P laid w) {name : String} {d : DataW Unit} (hm : (name, d) ∈ laid) {g : Nat} {t : TypeId} {n : Nat} {l : List AV} (hg : P.globalNamed name = some g) (ht : (P.globals[g]?).map (·.type) = some t)
    (hf : flatD P n t d = some l) (hl : l ≠ []) : ∃ (c : Array Value) (tt : TypeId), w.heap[g]? = some (.cells c tt (0, 0)) ∧ RL σ l c.toList ∧ ∀ u, u ∈ c.toList → oneC u = true := by
  obtain ⟨ps, hlv, _, hfr⟩ := h
  have key : ∀ (laid : List (String × DataW Unit)) (ps : List MemPlace), DataW.LaidVars P w laid ps → (name, d) ∈ laid →
      ∃ (cs : Array Value) (fuel : Nat) (p : List MemPlace), w.var? P name = some cs ∧ DataW.trod (fun _ => ()) P w 0 (fun _ => true) false fuel t cs.toList = some (d, p) ∧ ∀ x, x ∈ MemPlace.row ⟨g, 0, none⟩ cs.size → x ∈ ps := by
    intro laid
    induction laid with
    | nil => intro ps _ hm; cases hm
    | cons x r ih =>
      intro ps hlv hm
      obtain ⟨nm, d'⟩ := x
      obtain ⟨g', t', cs, fuel, p, q, h1, h2, h3, h4, h5, rfl⟩ := hlv
      rcases List.mem_cons.1 hm with e | hm
      · cases e
        rw [hg] at h1; cases h1
        rw [ht] at h2; cases h2
        exact ⟨cs, fuel, p, h3, h4, fun x hx => by simp [hx]⟩
      · obtain ⟨cs', fuel', p', k1, k2, k3⟩ := ih q h5 hm
        exact ⟨cs', fuel', p', k1, k2, fun x hx => by simp [k3 x hx]⟩
  obtain ⟨cs, fuel, p, h1, h2, h3⟩ := key laid ps hlv hm
  obtain ⟨k1, k2⟩ := flatD_ok (σ := σ) n _ _ _ hf _ _ _ h2
  have hpos : 0 < cs.size := by
    have := k1.1
    have h0 : 0 < l.length := List.length_pos_iff.2 hl
    simpa [this] using h0
  obtain ⟨⟨c, tt, hh⟩, _⟩ := hfr g 0 (h3 _ (by simp only [MemPlace.row, List.mem_map, List.mem_range]; exact ⟨0, hpos, rfl⟩))
  have : c = cs := by
    simp only [World.var?, hg, Option.bind_some, hh, Option.some.injEq] at h1
    exact h1
  subst this
  exact ⟨c, tt, hh, k1, k2⟩
end

/-- A heap of variables that are read alone. -/
noncomputable def heapOf : List (Nat × List AV) → Tr Blk
  | [] => .lf
  | (g, l) :: r => (heapOf r).set g (some (.cells false false none l))
theorem heapOf_get : ∀ {L : List (Nat × List AV)} {i : Nat} {b : Blk}, (heapOf L).get i = some b → ∃ l, (i, l) ∈ L ∧ b = .cells false false none l := by
  intro L
  induction L with
  | nil => intro i b h; simp [heapOf, Tr.get_lf] at h
  | cons p r ih =>
    intro i b h
    obtain ⟨g, l⟩ := p
    simp only [heapOf] at h
    by_cases e : i = g
    · subst e
      rw [Tr.get_set_same] at h
      simp only [Option.some.injEq] at h
      exact ⟨l, by simp, h.symm⟩
    · rw [Tr.get_set_other _ _ e] at h
      obtain ⟨l', h1, h2⟩ := ih h
      exact ⟨l', by simp [h1], h2⟩
theorem heapOf_low {L : List (Nat × List AV)} {n : Nat} (h : ∀ p ∈ L, p.1 < n) : Low (heapOf L) n := fun x hx => by
  cases hg : (heapOf L).get x with
  | none => rfl
  | some b =>
    obtain ⟨l, h1, _⟩ := heapOf_get hg
    have := h _ h1
    simp only at this; omega

theorem laidMet_of_H {P : Program} {laid : List (String × DataW Unit)} {w : World} (hf : (laid.filter fun x => x.2.handleName?.isSome) = []) (h : laidMetH P laid w) : laidMet P laid w := by
  unfold laidMetH at h
  rw [hf] at h
  exact h

noncomputable def listOf : Option (List AV) → List AV
  | some l => l
  | none => []

/-- A variable of the list, as the heap has it. -/
theorem var_ok {P : Program} {laid : List (String × DataW Unit)} {w : World} (h : laidMetH P laid w) (hf : (laid.filter fun x => x.2.handleName?.isSome) = []) {name : String} {d : DataW Unit} (hm : laid.lookup name = some d) {g : Nat} {t : TypeId} {n G : Nat}
    (hg : P.globalNamed name = some g) (ht : (P.globals[g]?).map (·.type) = some t) (hl : (flatD P n t d).isSome = true) (hne : (listOf (flatD P n t d)).isEmpty = false) (hG : g < G) :
    g < G ∧ ∃ (c : Array Value) (tt : TypeId), w.heap[g]? = some (.cells c tt (0, 0)) ∧ RL (sg0 P w G) (listOf (flatD P n t d)) c.toList ∧ ∀ u, u ∈ c.toList → oneC u = true := by
  refine ⟨hG, ?_⟩
  cases hq : flatD P n t d with
  | none => rw [hq] at hl; cases hl
  | some l =>
    rw [hq] at hne
    have hmem : (name, d) ∈ laid := by
      clear h hf
      induction laid with
      | nil => simp at hm
      | cons x r ih =>
        obtain ⟨nm, d'⟩ := x
        simp only [List.lookup_cons] at hm
        by_cases e : name = nm
        · subst e; simp at hm; subst hm; simp
        · have : (name == nm) = false := by simpa using e
          rw [this] at hm
          simp [ih hm]
    exact laid_var (laidMet_of_H hf h) hmem hg ht hq (by intro e; subst e; simp [listOf] at hne)

theorem rel_vars {P : Program} {w : World} {G : Nat} {L : List (Nat × List AV)} (h : ∀ p ∈ L, p.1 < G ∧ ∃ (c : Array Value) (tt : TypeId), w.heap[p.1]? = some (.cells c tt (0, 0)) ∧ RL (sg0 P w G) p.2 c.toList ∧ ∀ u, u ∈ c.toList → oneC u = true) :
    Rel w.heap.size G (sg0 P w G) (heapOf L) w :=
  rel0 fun i b hb => by
    obtain ⟨l, h1, rfl⟩ := heapOf_get hb
    obtain ⟨hlt, c, tt, h2, h3, h4⟩ := h _ h1
    exact ⟨hlt, l, c, tt, rfl, h2, h3, h4⟩

/-- A closed function of a program whose variables are listed. -/
noncomputable def ranTrueA (P : Program) (X : FuncId → Option ExtK) (J : FuncId → Bool) (G : Nat) (L : List (Nat × List AV)) (f : Nat) (avs : List AV) (n : Nat) : Bool :=
  match enterA P f avs with
  | some fr => match run P G X J n { fr, cs := [], hp := heapOf L, nx := G, lb := 0, wl := [] } with
    | some (.bool b, _) => b
    | _ => false
  | none => false

/-- A call that answers true, of whatever its arguments are known to be. -/
theorem calls_trueA {P : Program} {X : FuncId → Option ExtK} {J : FuncId → Bool} (hN : NoNum P) (hX : XOk P X) (hm : P.follows .mixedOrders = true) {G f n : Nat} {L : List (Nat × List AV)} {avs : List AV} (hr : ranTrueA P X J G L f avs n = true) {w : World} {vs : Array Value} (ha : RL (sg0 P w G) avs vs.toList)
    (h : ∀ p ∈ L, p.1 < G ∧ ∃ (c : Array Value) (tt : TypeId), w.heap[p.1]? = some (.cells c tt (0, 0)) ∧ RL (sg0 P w G) p.2 c.toList ∧ ∀ u, u ∈ c.toList → oneC u = true) :
    Calls P f vs w fun e w' => e = .returned (.bool true) ∧ RowKit.Below w.heap.size w w' := by
  unfold ranTrueA at hr
  split at hr
  · rename_i fr he
    exact run_true hN hX hm he hr ha (heapOf_low fun p hp => (h p hp).1) (rel_vars h) (fun i hi => by simp [sg0]; omega)
  · cases hr
theorem calls_true {P : Program} {X : FuncId → Option ExtK} {J : FuncId → Bool} (hN : NoNum P) (hX : XOk P X) (hm : P.follows .mixedOrders = true) {G f n : Nat} {L : List (Nat × List AV)} (hr : ranTrueA P X J G L f [] n = true) {w : World}
    (h : ∀ p ∈ L, p.1 < G ∧ ∃ (c : Array Value) (tt : TypeId), w.heap[p.1]? = some (.cells c tt (0, 0)) ∧ RL (sg0 P w G) p.2 c.toList ∧ ∀ u, u ∈ c.toList → oneC u = true) :
    Calls P f #[] w fun e w' => e = .returned (.bool true) ∧ RowKit.Below w.heap.size w w' := calls_trueA hN hX hm hr (vs := #[]) .nil h
theorem NoNum.of {P : Program} (h : (P.funcs.toList.all fun fn => fn.body.isNone || !(fn.name == "runtime.NumGoroutine")) = true) : NoNum P := by
  intro f fn c hf hb hn
  rw [List.all_eq_true] at h
  have := h fn (List.mem_of_getElem? (by rw [Array.getElem?_toList]; exact hf))
  rw [hb, hn] at this
  simp at this
end Go.Ex
