/-
  The abstract machine: what a run leaves as it was.
-/
import Derived.Test.YtkidamemnogojaaGreatDoorExLow
set_option linter.unusedVariables false
set_option linter.unusedSimpArgs false
namespace Go.Ex

/-- What changes say of a name. -/
def look : List (Nat × Option Blk) → Nat → Option (Option Blk)
  | [], _ => none
  | (i, b) :: r, x => match look r x with
    | some v => some v
    | none => if x = i then some b else none

theorem app_get : ∀ (dl : List (Nat × Option Blk)) (hp : Tr Blk) (x : Nat), (app dl hp).get x = match look dl x with | some v => v | none => hp.get x := by
  intro dl
  induction dl with
  | nil => intro hp x; rfl
  | cons p r ih =>
    intro hp x
    obtain ⟨i, b⟩ := p
    simp only [app_n, app_c, look, ih]
    cases look r x with
    | some v => rfl
    | none =>
      simp only
      by_cases h : x = i
      · subst h; rw [Tr.get_set_same]; simp
      · rw [Tr.get_set_other _ _ h]; simp [h]
theorem look_none : ∀ {dl : List (Nat × Option Blk)} {x : Nat}, (∀ p ∈ dl, p.1 ≠ x) → look dl x = none := by
  intro dl
  induction dl with
  | nil => intro x _; rfl
  | cons p r ih =>
    intro x h
    obtain ⟨i, b⟩ := p
    simp only [look, ih (fun q hq => h q (by simp [hq]))]
    have := h (i, b) (by simp)
    simp [Ne.symm this]
theorem look_mem : ∀ {dl : List (Nat × Option Blk)} {x : Nat} {v : Option Blk}, look dl x = some v → x ∈ dl.map (·.1) := by
  intro dl x v h
  refine Classical.byContradiction fun hn => ?_
  have : look dl x = none := look_none fun p hp e => hn (by rw [← e]; exact List.mem_map_of_mem hp)
  rw [this] at h; cases h

theorem logs_mem (lb : Nat) : ∀ (dl : List (Nat × Option Blk)) (wl : List Nat) (x : Nat), x ∈ logs lb dl wl ↔ (x ∈ wl ∨ (x < lb ∧ x ∈ dl.map (·.1))) := by
  intro dl
  induction dl with
  | nil => intro wl x; simp [logs_n, logs_c]
  | cons p r ih =>
    intro wl x
    obtain ⟨i, b⟩ := p
    simp only [logs_n, logs_c, List.map_cons, List.mem_cons]
    cases hb : Nat.blt i lb with
    | true =>
      have hi := blt_iff.1 hb
      simp only [cond_true, List.mem_cons, ih]
      constructor
      · rintro (rfl | h | ⟨h1, h2⟩)
        · exact .inr ⟨hi, .inl rfl⟩
        · exact .inl h
        · exact .inr ⟨h1, .inr h2⟩
      · rintro (h | ⟨h1, rfl | h2⟩)
        · exact .inr (.inl h)
        · exact .inl rfl
        · exact .inr (.inr ⟨h1, h2⟩)
    | false =>
      have hi := blt_iff_f.1 hb
      simp only [cond_false, ih]
      constructor
      · rintro (h | ⟨h1, h2⟩)
        · exact .inl h
        · exact .inr ⟨h1, .inr h2⟩
      · rintro (h | ⟨h1, rfl | h2⟩)
        · exact .inl h
        · omega
        · exact .inr ⟨h1, h2⟩

structure Keeps (s s' : St) : Prop where
  low : Low s'.hp s'.nx
  le : s.nx ≤ s'.nx
  lb : s'.lb = s.lb
  wl : ∀ x, x ∈ s.wl → x ∈ s'.wl
  wlb : ∀ x, x ∈ s'.wl → x ∈ s.wl ∨ x < s.lb
  same : ∀ x, x < s.lb → x ∉ s'.wl → s'.hp.get x = s.hp.get x

theorem Keeps.of {s s' : St} (hl : Low s.hp s.nx) (h1 : s'.hp = s.hp) (h2 : s'.nx = s.nx) (h3 : s'.lb = s.lb) (h4 : s'.wl = s.wl) : Keeps s s' :=
  ⟨by rw [h1, h2]; exact hl, by omega, h3, fun x hx => by rw [h4]; exact hx, fun x hx => by rw [h4] at hx; exact .inl hx, fun x _ _ => by rw [h1]⟩
theorem Keeps.trans {s s' s'' : St} (h : Keeps s s') (k : Keeps s' s'') : Keeps s s'' where
  low := k.low
  le := Nat.le_trans h.le k.le
  lb := k.lb.trans h.lb
  wl := fun x hx => k.wl x (h.wl x hx)
  wlb := fun x hx => by
    rcases k.wlb x hx with h1 | h1
    · exact h.wlb x h1
    · rw [h.lb] at h1; exact .inr h1
  same := fun x hx hn => by
    rw [k.same x (by rw [h.lb]; exact hx) hn]
    exact h.same x hx fun hm => hn (k.wl x hm)
theorem Keeps.turn {s s' : St} {dl : List (Nat × Option Blk)} {nx : Nat} (hl : Low s.hp s.nx) (hle : s.nx ≤ nx) (hd : ∀ p ∈ dl, p.1 < nx) (h1 : s'.hp = (s.turn dl nx).hp) (h2 : s'.nx = nx) (h3 : s'.lb = s.lb) (h4 : s'.wl = (s.turn dl nx).wl) : Keeps s s' := by
  have hw : s'.wl = logs s.lb dl s.wl := h4
  have hh : s'.hp = app dl s.hp := h1
  refine ⟨?_, by omega, h3, fun x hx => by rw [hw, logs_mem]; exact .inl hx, fun x hx => ?_, fun x hx hn => ?_⟩
  · intro x hx
    rw [hh, app_get, look_none (fun p hp e => by have := hd p hp; omega)]
    exact hl x (by omega)
  · rw [hw, logs_mem] at hx
    rcases hx with hx | hx
    · exact .inl hx
    · exact .inr hx.1
  · rw [hw, logs_mem] at hn
    have hnd : ∀ p ∈ dl, p.1 ≠ x := fun p hp e => hn (.inr ⟨hx, by rw [← e]; exact List.mem_map_of_mem hp⟩)
    rw [hh, app_get, look_none hnd]

def OutKeeps (s : St) : Out → Prop
  | .go s' => Keeps s s'
  | .done _ s' => Keeps s s'
  | .pick l => ∀ r, r ∈ l → Good s.nx r
  | .stop s' => Keeps s s'
  | _ => True

section
variable {P : Program} {G : Nat} {X : FuncId → Option ExtK} {s s1 : St}

theorem putV_keeps {x : AV} (h : Keeps s s1) : OutKeeps s (putV s1 x) := by
  unfold putV
  split
  · exact h.trans (.of h.low rfl rfl rfl rfl)
  · trivial

theorem good_turn {r : R} (hl : Low s.hp s.nx) (h : Good s.nx r) : Keeps s (s.turn r.dl r.nx) := .turn hl h.1 h.2 rfl rfl rfl rfl

theorem leaveA_keeps (hl : Low s.hp s.nx) (j : Option Code) : OutKeeps s (leaveA s j) := by
  unfold leaveA
  split
  · split
    · exact .of hl rfl rfl rfl rfl
    · exact .of hl rfl rfl rfl rfl
    · trivial
  · rename_i id _
    split
    · rename_i hg
      have key : ∀ b, Keeps s (s.turn [(id, some b)] s.nx) := fun b => .turn hl (Nat.le_refl _) (by simpa using hl.lt hg) rfl rfl rfl rfl
      dsimp only
      split
      · split
        · exact (key _).trans (.of (key _).low rfl rfl rfl rfl)
        · trivial
      · exact key _
    · trivial

theorem rangeA_keeps (hl : Low s.hp s.nx) {f : AV} {ps : Array Tmp} {a b : Code} {k : List AI} : OutKeeps s (rangeA P s f ps a b k) := by
  unfold rangeA
  split
  · split
    · split
      · refine .turn (dl := [(s.nx, some .dfr), (s.nx + 1, some (.loop .ready none s.fr.fn s.fr.sz s.fr.tm ps.toList a b s.nx))]) (nx := s.nx + 2) hl ?_ ?_ rfl rfl rfl rfl
        · omega
        · intro p hp
          simp only [List.mem_cons, List.not_mem_nil, or_false] at hp
          rcases hp with rfl | rfl <;> simp
      · trivial
    · split
      · split
        · rename_i d _ _ _ _
          refine .turn (dl := [(s.nx, some (.loop .ready none s.fr.fn s.fr.sz s.fr.tm ps.toList a b d))]) (nx := s.nx + 1) hl ?_ ?_ rfl rfl rfl rfl
          · omega
          · intro p hp
            simp only [List.mem_cons, List.not_mem_nil, or_false] at hp
            subst hp; simp
        · trivial
      · trivial
  · trivial

theorem codeA_keeps (hl : Low s.hp s.nx) {c : Code} {k : List AI} : OutKeeps s (codeA P G s c k) := by
  cases c with
  | cond c x y =>
    unfold codeA; dsimp only
    split
    · exact .of hl rfl rfl rfl rfl
    · exact .of hl rfl rfl rfl rfl
    · trivial
  | exit id =>
    unfold codeA; dsimp only
    split
    · exact .of hl rfl rfl rfl rfl
    · cases noStop k with
      | true => exact leaveA_keeps hl (some (.exit id))
      | false => trivial
  | goto l =>
    unfold codeA; dsimp only
    split
    · exact .of hl rfl rfl rfl rfl
    · cases noStop k with
      | true => exact leaveA_keeps hl (some (.goto l))
      | false => trivial
  | ret => exact leaveA_keeps hl (some .ret)
  | region id ops d => cases d with
    | true => trivial
    | false => exact .of hl rfl rfl rfl rfl
  | rangeFunc g ps a b => exact rangeA_keeps hl
  | refuse w => trivial
  | _ => exact .of hl rfl rfl rfl rfl

theorem callA_keeps (hl : Low s.hp s.nx) {c : Callk} : OutKeeps s (callA P G X s c) := by
  unfold callA
  split
  · split
    · rename_i hr; exact putV_keeps (good_turn hl (extO_good hl hr))
    · split
      · exact .of hl rfl rfl rfl rfl
      · trivial
  · split
    · exact .of hl rfl rfl rfl rfl
    · trivial

theorem operA_keeps (hl : Low s.hp s.nx) {o : Oper} : OutKeeps s (operA P G X s o) := by
  unfold operA
  split
  · rename_i hr; exact putV_keeps (good_turn hl (aop_good hl hr))
  · split
    · split
      · exact callA_keeps hl
      · trivial
    · split
      · rename_i hpk; exact picks_good hl hpk
      · trivial
    · trivial

theorem retA_keeps (hl : Low s.hp s.nx) : OutKeeps s (retA P s) := by
  unfold retA
  split
  · split
    · rename_i d _ _ _ hg
      exact .turn (dl := [(d, none)]) hl (Nat.le_refl _) (by simpa using hl.lt hg) rfl rfl rfl rfl
    · trivial
  · split
    · split
      · split
        · exact .of hl rfl rfl rfl rfl
        · split
          · exact .of hl rfl rfl rfl rfl
          · trivial
      · trivial
    · trivial

theorem begA_keeps (hl : Low s.hp s.nx) {k : List AI} : OutKeeps s (begA s k) := by
  unfold begA
  split
  · rename_i id _
    split
    · rename_i pend fn sz tm ps a b d hg
      exact .turn (dl := [(id, some (.loop .busy pend fn sz tm ps a b d))]) hl (Nat.le_refl _) (by simpa using hl.lt hg) rfl rfl rfl rfl
    · trivial
  · trivial
theorem endRFA_keeps (hl : Low s.hp s.nx) {id : Nat} {k : List AI} : OutKeeps s (endRFA s id k) := by
  unfold endRFA
  split
  · rename_i st pend fn sz tm ps a b d hg
    split
    · trivial
    · exact .turn (dl := [(id, some (.loop .exhausted pend fn sz tm ps a b d))]) hl (Nat.le_refl _) (by simpa using hl.lt hg) rfl rfl rfl rfl
  · trivial

theorem stp_keeps (hl : Low s.hp s.nx) : OutKeeps s (stp P G X s) := by
  unfold stp
  split
  · exact retA_keeps hl
  · unfold todoA
    split
    · split
      · exact operA_keeps hl
      · exact putV_keeps (.of hl rfl rfl rfl rfl)
      · trivial
    · exact .of hl rfl rfl rfl rfl
    · exact codeA_keeps hl
    · exact .of hl rfl rfl rfl rfl
    · exact .of hl rfl rfl rfl rfl
    · exact .of hl rfl rfl rfl rfl
    · exact begA_keeps hl
    · exact endRFA_keeps hl
    · trivial
    · unfold stopA
      split
      · exact .of hl rfl rfl rfl rfl
      · trivial
    · exact leaveA_keeps hl _
end
end Go.Ex
