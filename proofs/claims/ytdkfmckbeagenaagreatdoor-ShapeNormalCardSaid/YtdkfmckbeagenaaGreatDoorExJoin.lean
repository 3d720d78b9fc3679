/-
  The abstract machine: which names there are, and which ones turn.
 The abstract machine: what a run leaves as it was.
 The abstract machine: what is alike in two ends of a run.
-/
import Derived.Test.YtdkfmckbeagenaaGreatDoorExStep2
set_option linter.unusedVariables false
set_option linter.unusedSimpArgs false
namespace Go.Ex

def Low (hp : Tr Blk) (nx : Nat) : Prop := ∀ x, nx ≤ x → hp.get x = none
def Good (nx : Nat) (r : R) : Prop := nx ≤ r.nx ∧ ∀ p ∈ r.dl, p.1 < r.nx
theorem Low.lt {hp : Tr Blk} {nx id : Nat} {b : Blk} (h : Low hp nx) (hg : hp.get id = some b) : id < nx := by
 rcases Nat.lt_or_ge id nx with h1 | h1
 ·exact h1
 ·rw [h id h1] at hg; cases hg
section
variable {P : Program} {G : Nat} {hp : Tr Blk} {nx : Nat} {r : R}

theorem good_rv {v : AV} (h : rv nx v = some r) : Good nx r := by rw [rv_some h]; exact ⟨Nat.le_refl _, by simp⟩
theorem good_rvO {v : Option AV} (h : rvO nx v = some r) : Good nx r := by obtain ⟨x, _, rfl⟩ := rvO_some h; exact ⟨Nat.le_refl _, by simp⟩
theorem good_rnew {v : AV} {b : Blk} (h : rnew nx v b = some r) : Good nx r := by
 simp only [rnew, Option.some.injEq] at h; subst h
 exact ⟨Nat.le_succ _, by simp⟩
theorem good_rset {v : AV} {id : Nat} {b b' : Blk} (hl : Low hp nx) (hg : hp.get id = some b') (h : rset nx v id b = some r) : Good nx r := by
 simp only [rset, Option.some.injEq] at h; subst h
 exact ⟨Nat.le_refl _, by simpa using hl.lt hg⟩
theorem picks_good {it : AV} {isS : Bool} {l : List R} (hl : Low hp nx) (h : picks hp nx it isS = some l) : ∀ r, r ∈ l → Good nx r := by
 unfold picks at h
 split at h
 ·split at h
  ·rename_i id m since seen st hg
   split at h
   ·rename_i wr es c hm
    rcases cond_eq_some h with ⟨_, h'⟩ | ⟨_, h'⟩ <;> clear h
    ·simp only [Option.some.injEq] at h'; subst h'
     intro r hr
     generalize leftA seen es = L at hr
     induction L with
     | nil => simp [pickRs] at hr
     | cons e L ih =>
      simp only [pickRs, List.mem_cons] at hr
      rcases hr with rfl | hr
      ·exact ⟨Nat.le_refl _, by simpa [pickR] using hl.lt hg⟩
      ·exact ih hr
    ·cases h'
   ·cases h
  ·cases h
 ·cases h
theorem good_putB {v : AV} {id off : Nat} {vs : List AV} (hl : Low hp nx) (h : putB hp nx v id off vs = some r) : Good nx r := by
 unfold putB at h
 split at h
 ·rename_i hg
  split at h
  ·exact good_rset hl hg h
  ·cases h
 ·cases h
theorem good_slice {t : TypeId} {x : AV} {lo hi mx : Option AV} (h : doSlice P hp nx t x lo hi mx = some r) : Good nx r := by
 unfold doSlice at h
 repeat' split at h
 all_goals first
  | exact good_rv h
  | exact good_rvO h
  | cases h
  | (rcases cond_eq_some h with ⟨_, h'⟩ | ⟨_, h'⟩ <;> (try split at h') <;> first | exact good_rvO h' | cases h')
theorem good_appendTo {e : TypeId} {es n : Nat} {new : List AV} {s : AV} (hl : Low hp nx) (h : appendTo e hp nx es n new s = some r) : Good nx r := by
 cases s with
 | nils =>
  simp only [appendTo] at h
  rcases cond_eq_some h with ⟨_, h'⟩ | ⟨_, h'⟩
  ·exact good_rv h'
  ·exact good_rnew h'
 | sl id off len cap es' =>
  simp only [appendTo] at h
  rcases cond_eq_some h with ⟨_, h'⟩ | ⟨_, h'⟩ <;> clear h
  ·split at h'
   ·rename_i hg
    split at h'
    ·rcases cond_eq_some h' with ⟨_, h⟩ | ⟨_, h⟩ <;> clear h'
     ·rcases cond_eq_some h with ⟨_, h'⟩ | ⟨_, h'⟩ <;> clear h
      ·exact good_rv h'
      ·rcases cond_eq_some h' with ⟨_, h⟩ | ⟨_, h⟩ <;> clear h'
       ·split at h
        ·exact good_rset hl hg h
        ·cases h
       ·cases h
     ·split at h
      ·exact good_rnew h
      ·cases h
    ·rcases cond_eq_some h' with ⟨_, h⟩ | ⟨_, h⟩ <;> clear h'
     ·rcases cond_eq_some h with ⟨_, h'⟩ | ⟨_, h'⟩ <;> clear h
      ·exact good_rv h'
      ·rcases cond_eq_some h' with ⟨_, h⟩ | ⟨_, h⟩ <;> clear h'
       ·split at h
        ·exact good_rset hl hg h
        ·cases h
       ·cases h
     ·rcases cond_eq_some h with ⟨_, h'⟩ | ⟨_, h'⟩ <;> clear h
      ·simp only [Option.some.injEq] at h'; subst h'
       refine ⟨Nat.le_succ _, fun p hp => ?_⟩
       have := hl.lt hg
       simp only [List.mem_cons, List.not_mem_nil, or_false] at hp
       rcases hp with rfl | rfl
       ·show id < nx + 1; omega
       ·show nx < nx + 1; omega
      ·cases h'
   ·cases h'
  ·cases h'
 | _ => simp [appendTo] at h
theorem good_append {sT xT : TypeId} {x y : AV} (hl : Low hp nx) (h : doAppend P hp nx sT xT x y = some r) : Good nx r := by
 unfold doAppend at h
 split at h
 ·split at h
  ·cases h
  ·rcases cond_eq_some h with ⟨_, h'⟩ | ⟨_, h'⟩ <;> clear h
   ·cases h'
   ·split at h'
    ·rcases cond_eq_some h' with ⟨_, h⟩ | ⟨_, h⟩
     ·exact good_appendTo hl h
     ·cases h
    ·cases h'
  ·cases h
 ·cases h
theorem good_copy {dT : TypeId} {d x : AV} (hl : Low hp nx) (h : doCopy P hp nx dT d x = some r) : Good nx r := by
 unfold doCopy at h
 split at h
 ·split at h
  ·dsimp only at h
   split at h
   ·split at h
    ·exact good_rv h
    ·exact good_rv h
    ·exact good_putB hl h
    ·cases h
   ·cases h
  ·cases h
 ·cases h
theorem good_clear {t : TypeId} {x : AV} (hl : Low hp nx) (h : doClear P hp nx t x = some r) : Good nx r := by
 unfold doClear at h
 split at h
 ·split at h
  ·exact good_rv h
  ·split at h
   ·rcases cond_eq_some h with ⟨_, h'⟩ | ⟨_, h'⟩
    ·exact good_rv h'
    ·exact good_putB hl h'
   ·cases h
  ·cases h
 ·cases h
theorem good_mapSet {t : TypeId} {m k v : AV} (hl : Low hp nx) (h : doMapSet P hp nx t m k v = some r) : Good nx r := by
 unfold doMapSet at h
 split at h
 ·split at h
  ·rename_i hg
   rcases cond_eq_some h with ⟨_, h'⟩ | ⟨_, h'⟩ <;> clear h
   ·split at h'
    ·exact good_rset hl hg h'
    ·exact good_rset hl hg h'
    ·cases h'
   ·cases h'
  ·cases h
 ·cases h
theorem good_mapEntry {t : TypeId} {m k : AV} (hl : Low hp nx) (h : doMapEntry P hp nx t m k = some r) : Good nx r := by
 unfold doMapEntry at h
 split at h
 ·split at h
  ·rename_i hg _
   rcases cond_eq_some h with ⟨_, h'⟩ | ⟨_, h'⟩ <;> clear h
   ·split at h'
    ·exact good_rset hl hg h'
    ·exact good_rset hl hg h'
    ·cases h'
   ·cases h'
  ·cases h
 ·cases h
theorem good_entryStore {m k v : AV} (hl : Low hp nx) (h : doEntryStore hp nx m k v = some r) : Good nx r := by
 unfold doEntryStore at h
 split at h
 ·split at h
  ·rename_i hg
   split at h
   ·exact good_rset hl hg h
   ·cases h
  ·cases h
 ·cases h
theorem good_delete {t : TypeId} {m k : AV} (hl : Low hp nx) (h : doDelete P hp nx t m k = some r) : Good nx r := by
 unfold doDelete at h
 split at h
 ·split at h
  ·rename_i hg
   rcases cond_eq_some h with ⟨_, h'⟩ | ⟨_, h'⟩ <;> clear h
   ·split at h'
    ·exact good_rset hl hg h'
    ·exact good_rset hl hg h'
    ·cases h'
   ·cases h'
  ·cases h
 ·cases h
theorem good_lookup {t : TypeId} {m k : AV} {ok : Bool} (h : doLookup P hp nx t m k ok = some r) : Good nx r := by
 unfold doLookup at h
 split at h
 ·split at h
  ·rcases cond_eq_some h with ⟨_, h'⟩ | ⟨_, h'⟩ <;> clear h
   ·split at h'
    ·exact good_rv h'
    ·exact good_rv h'
    ·cases h'
   ·cases h'
  ·cases h
 ·cases h
theorem good_convert {src dst : TypeId} {x : AV} (h : doConvert P hp nx src dst x = some r) : Good nx r := by
 unfold doConvert at h
 repeat' split at h
 all_goals first
  | exact good_rv h
  | exact good_rnew h
  | (cases h; done)
  | (rcases cond_eq_some h with ⟨_, h'⟩ | ⟨_, h'⟩ <;> first | exact good_rv h' | exact good_rnew h' | cases h')
theorem good_len {t : TypeId} {x : AV} (h : doLen P hp nx t x = some r) : Good nx r := by
 unfold doLen at h
 repeat' split at h
 all_goals first
  | exact good_rv h
  | cases h
theorem good_lookupU {t : TypeId} {m k : AV} {ok : Bool} (h : doLookupU P hp nx t m k ok = some r) : Good nx r := by
 unfold doLookupU at h
 repeat' split at h
 all_goals first
  | (cases h; done)
  | (rcases cond_eq_some h with ⟨_, h'⟩ | ⟨_, h'⟩
     ·repeat' split at h'
      all_goals first
       | exact good_rv h'
       | cases h'
     ·cases h')
theorem good_mapSetU {t : TypeId} {m k v : AV} (hl : Low hp nx) (h : doMapSetU P hp nx t m k v = some r) : Good nx r := by
 unfold doMapSetU at h
 split at h
 ·split at h
  ·rename_i hg
   rcases cond_eq_some h with ⟨_, h'⟩ | ⟨_, h'⟩
   ·split at h'
    ·exact good_rset hl hg h'
    ·exact good_rset hl hg h'
    ·cases h'
   ·cases h'
  ·cases h
 ·cases h
theorem good_deleteU {t : TypeId} {m k : AV} (hl : Low hp nx) (h : doDeleteU P hp nx t m k = some r) : Good nx r := by
 unfold doDeleteU at h
 split at h
 ·split at h
  ·rename_i hg
   rcases cond_eq_some h with ⟨_, h'⟩ | ⟨_, h'⟩
   ·split at h'
    ·exact good_rset hl hg h'
    ·exact good_rset hl hg h'
    ·cases h'
   ·cases h'
  ·cases h
 ·cases h
theorem good_lenU {t : TypeId} {x : AV} (h : doLenU P hp nx t x = some r) : Good nx r := by
 unfold doLenU at h
 repeat' split at h
 all_goals first
  | exact good_rv h
  | cases h
theorem good_builtin {b : Builtin} {ts : List TypeId} {xs : List AV} (hl : Low hp nx) (h : doBuiltin P hp nx b ts xs = some r) : Good nx r := by
 unfold doBuiltin at h
 split at h
 ·exact good_append hl h
 ·rcases orE_some h with h | h
  ·exact good_len h
  ·exact good_lenU h
 ·unfold doCap at h
  split at h
  ·exact good_rv h
  ·exact good_rv h
  ·cases h
 ·exact good_copy hl h
 ·rcases orE_some h with h | h
  ·exact good_delete hl h
  ·exact good_deleteU hl h
 ·exact good_clear hl h
 ·split at h
  ·exact good_rv h
  ·cases h
 ·split at h
  ·exact good_rv h
  ·cases h
 ·split at h
  ·exact good_rv h
  ·cases h
 ·split at h
  ·exact good_rv h
  ·cases h
 ·unfold doData at h
  repeat' split at h
  all_goals first
   | exact good_rv h
   | cases h
   | (rcases cond_eq_some h with ⟨_, h'⟩ | ⟨_, h'⟩
      ·exact good_rv h'
      ·cases h')
 ·unfold doUStr at h
  split at h
  ·split at h
   ·exact good_rv h
   ·exact good_rv h
   ·cases h
  ·split at h
   ·split at h
    ·rename_i hg
     rcases cond_eq_some h with ⟨_, h'⟩ | ⟨_, h'⟩
     ·split at h'
      ·split at h'
       ·simp only [Option.some.injEq] at h'; subst h'
        refine ⟨Nat.le_refl _, fun p hp => ?_⟩
        simp only [List.mem_singleton] at hp
        subst hp
        exact hl.lt hg
       ·cases h'
      ·cases h'
     ·cases h'
    ·cases h
   ·cases h
  ·cases h
 ·cases h
theorem aop_good {tm : Tr AV} {o : Oper} (hl : Low hp nx) (h : aop P G tm hp nx o = some r) : Good nx r := by
 obtain ⟨dst, op, type, pos, after, guard⟩ := o
 cases op <;> simp only [aop, aopM] at h
 case move x => exact good_rv h
 case assign x => exact good_rv h
 case load t x => exact good_rvO h
 case store t x y =>
  unfold doStore at h
  split at h
  ·rcases cond_eq_some h with ⟨_, h'⟩ | ⟨_, h'⟩
   ·exact good_putB hl h'
   ·cases h'
  ·cases h
 case binOp op t x y _ =>
  rcases cond_eq_some h with ⟨_, h'⟩ | ⟨_, h'⟩
  ·exact good_rvO h'
  ·cases h'
 case fieldAddr s x f =>
  unfold doFieldAddr at h
  repeat' split at h
  all_goals first
   | exact good_rv h
   | cases h
 case indexAddr t x i =>
  unfold doIndexAddr at h
  repeat' split at h
  all_goals first
   | (cases h; done)
   | (rcases cond_eq_some h with ⟨_, h'⟩ | ⟨_, h'⟩ <;> first | exact good_rv h' | exact good_rnew h' | cases h')
 case nilCheck x =>
  unfold doNilCheck at h
  split at h <;> first
   | exact good_rv h
   | cases h
 case pick c x y =>
  unfold doPick at h
  split at h <;> first
   | exact good_rv h
   | cases h
 case unOp op t x => exact good_rvO h
 case alloc t =>
  unfold doAlloc at h
  split at h <;> first
   | exact good_rnew h
   | cases h
 case box t x =>
  unfold doBox at h
  split at h <;> first
   | exact good_rnew h
   | cases h
 case build t ps =>
  unfold doBuild at h
  split at h
  ·rcases cond_eq_some h with ⟨_, h'⟩ | ⟨_, h'⟩
   ·split at h'
    ·exact good_rv h'
    ·cases h'
   ·cases h'
  ·split at h
   ·split at h
    ·exact good_rv h
    ·cases h
   ·cases h
  ·cases h
 case buildSlice t n ps =>
  unfold doBuildSlice at h
  split at h
  ·split at h
   ·rcases cond_eq_some h with ⟨_, h'⟩ | ⟨_, h'⟩
    ·cases h'
    ·split at h'
     ·exact good_rnew h'
     ·cases h'
   ·cases h
  ·cases h
 case convert s d x => exact good_convert h
 case makeInterface t x =>
  unfold doMakeIface at h
  split at h <;> first
   | exact good_rv h
   | cases h
 case makeFunc f x y =>
  unfold doMakeFunc at h
  split at h <;> first
   | exact good_rv h
   | cases h
 case makeMap t x =>
  unfold doMakeMap at h
  split at h <;> first
   | exact good_rnew h
   | cases h
 case makeSlice t l c =>
  unfold doMakeSlice at h
  split at h
  ·split at h
   ·rcases cond_eq_some h with ⟨_, h'⟩ | ⟨_, h'⟩
    ·cases h'
    ·exact good_rnew h'
   ·cases h
  ·cases h
 case slice t x lo hi mx => exact good_slice h
 case field s x f =>
  unfold doField at h
  split at h <;> first
   | exact good_rvO h
   | cases h
 case index t x i =>
  unfold doIndex at h
  repeat' split at h
  all_goals first
   | exact good_rv h
   | (cases h; done)
   | (rcases cond_eq_some h with ⟨_, h'⟩ | ⟨_, h'⟩ <;> first | exact good_rvO h' | cases h')
 case lookup t x i ok =>
  rcases orE_some h with h | h
  ·exact good_lookup h
  ·exact good_lookupU h
 case mapUpdate t m k v =>
  rcases orE_some h with h | h
  ·exact good_mapSet hl h
  ·exact good_mapSetU hl h
 case insert t m k v =>
  rcases orE_some h with h | h
  ·exact good_mapSet hl h
  ·exact good_mapSetU hl h
 case mapEntry t m k => exact good_mapEntry hl h
 case entryStore t m s v => exact good_entryStore hl h
 case range t x =>
  unfold doRange at h
  split at h
  ·exact good_rnew h
  ·exact good_rnew h
  ·split at h <;> first
    | exact good_rnew h
    | cases h
  ·cases h
 case entry it =>
  unfold doEntry at h
  repeat' split at h
  all_goals first
   | (cases h; done)
   | (rcases cond_eq_some h with ⟨_, h'⟩ | ⟨_, h'⟩ <;> first | exact good_rvO h' | cases h')
 case next it isS =>
  unfold doNext at h
  split at h
  ·split at h
   ·rename_i hg
    split at h
    ·exact good_rv h
    ·rcases cond_eq_some h with ⟨_, h'⟩ | ⟨_, h'⟩
     ·exact good_rset hl hg h'
     ·cases h'
   ·cases h
  ·split at h
   ·exact good_rv h
   ·split at h
    ·exact good_rv h
    ·rename_i hpk
     simp only [Option.some.injEq] at h; subst h
     exact picks_good hl hpk _ (by simp)
    ·cases h
   ·cases h
  ·cases h
 case typeAssert x t as ok =>
  unfold doAssert at h
  split at h
  ·cases h
  ·rcases cond_eq_some h with ⟨_, h'⟩ | ⟨_, h'⟩
   ·split at h'
    ·exact good_rv h'
    ·cases h'
   ·cases h'
  ·rcases cond_eq_some h with ⟨_, h'⟩ | ⟨_, h'⟩
   ·exact good_rv h'
   ·rcases cond_eq_some h' with ⟨_, h⟩ | ⟨_, h⟩
    ·split at h
     ·exact good_rv h
     ·cases h
    ·cases h
  ·cases h
 case extract x i =>
  unfold doExtract at h
  split at h
  ·exact good_rvO h
  ·cases h
 case call c =>
  split at h
  ·exact good_builtin hl h
  ·cases h
 all_goals cases h
theorem ins_good {id off len es i idv offv lenv esv : Nat} (hl : Low hp nx) (h : insA hp nx id off len es i idv offv lenv esv = some r) : Good nx r := by
 unfold insA at h
 split at h
 ·rename_i hg _
  rcases cond_eq_some h with ⟨_, h'⟩ | ⟨_, h'⟩
  ·split at h'
   ·split at h'
    ·simp only [Option.some.injEq] at h'; subst h'
     refine ⟨Nat.le_succ _, fun p hp => ?_⟩
     have := hl.lt hg
     simp only [List.mem_cons, List.not_mem_nil, or_false] at hp
     rcases hp with rfl | rfl
     ·show id < nx + 1; omega
     ·show nx < nx + 1; omega
    ·cases h'
   ·cases h'
  ·cases h'
 ·cases h
theorem ext_good {k : ExtK} {args : List AV} (hl : Low hp nx) (h : extA G hp nx k args = some r) : Good nx r := by
 unfold extA at h
 split at h
 ·rcases cond_eq_some h with ⟨_, h'⟩ | ⟨_, h'⟩
  ·exact good_rv h'
  ·cases h'
 ·rcases cond_eq_some h with ⟨_, h'⟩ | ⟨_, h'⟩
  ·split at h' <;> exact good_rv h'
  ·cases h'
 ·exact good_rv h
 ·exact good_rv h
 ·exact good_rv h
 ·rcases cond_eq_some h with ⟨_, h'⟩ | ⟨_, h'⟩
  ·exact good_rnew h'
  ·cases h'
 ·exact ins_good hl h
 ·rcases cond_eq_some h with ⟨_, h'⟩ | ⟨_, h'⟩
  ·exact good_rv h'
  ·cases h'
 ·rcases cond_eq_some h with ⟨_, h'⟩ | ⟨_, h'⟩
  ·exact good_rv h'
  ·cases h'
 ·cases h
theorem extO_good {X : FuncId → Option ExtK} {g : FuncId} {args : List AV} (hl : Low hp nx) (h : extO G X hp nx g args = some r) : Good nx r := by
 unfold extO at h
 split at h
 ·exact ext_good hl h
 ·cases h
end
end Go.Ex
set_option linter.unusedVariables false
set_option linter.unusedSimpArgs false
namespace Go.Ex

def look : List (Nat × Option Blk) → Nat → Option (Option Blk)
 | [], _ => none
 | (i, b) :: r, x => match look r x with
  | some v => some v
  | none => if x = i then some b else none
theorem app_get : ∀ (dl : List (Nat × Option Blk)) (hp : Tr Blk) (x : Nat), (app dl hp).get x = match look dl x with | some v => v | none => hp.get x := by
 intro dl
 induction dl with
 | nil => intro hp x; rfl
 | cons p r ih =>
  intro hp x
  obtain ⟨i, b⟩ := p
  simp only [app_n, app_c, look, ih]
  cases look r x with
  | some v => rfl
  | none =>
   simp only
   by_cases h : x = i
   ·subst h; rw [Tr.get_set_same]; simp
   ·rw [Tr.get_set_other _ _ h]; simp [h]
theorem look_none : ∀ {dl : List (Nat × Option Blk)} {x : Nat}, (∀ p ∈ dl, p.1 ≠ x) → look dl x = none := by
 intro dl
 induction dl with
 | nil => intro x _; rfl
 | cons p r ih =>
  intro x h
  obtain ⟨i, b⟩ := p
  simp only [look, ih (fun q hq => h q (by simp [hq]))]
  have := h (i, b) (by simp)
  simp [Ne.symm this]
theorem look_mem : ∀ {dl : List (Nat × Option Blk)} {x : Nat} {v : Option Blk}, look dl x = some v → x ∈ dl.map (·.1) := by
 intro dl x v h
 refine Classical.byContradiction fun hn => ?_
 have : look dl x = none := look_none fun p hp e => hn (by rw [← e]; exact List.mem_map_of_mem hp)
 rw [this] at h; cases h
theorem logs_mem (lb : Nat) : ∀ (dl : List (Nat × Option Blk)) (wl : List Nat) (x : Nat), x ∈ logs lb dl wl ↔ (x ∈ wl ∨ (x < lb ∧ x ∈ dl.map (·.1))) := by
 intro dl
 induction dl with
 | nil => intro wl x; simp [logs_n, logs_c]
 | cons p r ih =>
  intro wl x
  obtain ⟨i, b⟩ := p
  simp only [logs_n, logs_c, List.map_cons, List.mem_cons]
  cases hb : Nat.blt i lb with
  | true =>
   have hi := blt_iff.1 hb
   simp only [cond_true, List.mem_cons, ih]
   constructor
   ·rintro (rfl | h | ⟨h1, h2⟩)
    ·exact .inr ⟨hi, .inl rfl⟩
    ·exact .inl h
    ·exact .inr ⟨h1, .inr h2⟩
   ·rintro (h | ⟨h1, rfl | h2⟩)
    ·exact .inr (.inl h)
    ·exact .inl rfl
    ·exact .inr (.inr ⟨h1, h2⟩)
  | false =>
   have hi := blt_iff_f.1 hb
   simp only [cond_false, ih]
   constructor
   ·rintro (h | ⟨h1, h2⟩)
    ·exact .inl h
    ·exact .inr ⟨h1, .inr h2⟩
   ·rintro (h | ⟨h1, rfl | h2⟩)
    ·exact .inl h
    ·omega
    ·exact .inr ⟨h1, h2⟩
structure Keeps (s s' : St) : Prop where
 low : Low s'.hp s'.nx
 le : s.nx ≤ s'.nx
 lb : s'.lb = s.lb
 wl : ∀ x, x ∈ s.wl → x ∈ s'.wl
 wlb : ∀ x, x ∈ s'.wl → x ∈ s.wl ∨ x < s.lb
 same : ∀ x, x < s.lb → x ∉ s'.wl → s'.hp.get x = s.hp.get x
theorem Keeps.of {s s' : St} (hl : Low s.hp s.nx) (h1 : s'.hp = s.hp) (h2 : s'.nx = s.nx) (h3 : s'.lb = s.lb) (h4 : s'.wl = s.wl) : Keeps s s' :=
 ⟨by rw [h1, h2]; exact hl, by omega, h3, fun x hx => by rw [h4]; exact hx, fun x hx => by rw [h4] at hx; exact .inl hx, fun x _ _ => by rw [h1]⟩
theorem Keeps.trans {s s' s'' : St} (h : Keeps s s') (k : Keeps s' s'') : Keeps s s'' where
 low := k.low
 le := Nat.le_trans h.le k.le
 lb := k.lb.trans h.lb
 wl := fun x hx => k.wl x (h.wl x hx)
 wlb := fun x hx => by
  rcases k.wlb x hx with h1 | h1
  ·exact h.wlb x h1
  ·rw [h.lb] at h1; exact .inr h1
 same := fun x hx hn => by
  rw [k.same x (by rw [h.lb]; exact hx) hn]
  exact h.same x hx fun hm => hn (k.wl x hm)
theorem Keeps.turn {s s' : St} {dl : List (Nat × Option Blk)} {nx : Nat} (hl : Low s.hp s.nx) (hle : s.nx ≤ nx) (hd : ∀ p ∈ dl, p.1 < nx) (h1 : s'.hp = (s.turn dl nx).hp) (h2 : s'.nx = nx) (h3 : s'.lb = s.lb) (h4 : s'.wl = (s.turn dl nx).wl) : Keeps s s' := by
 have hw : s'.wl = logs s.lb dl s.wl := h4
 have hh : s'.hp = app dl s.hp := h1
 refine ⟨?_, by omega, h3, fun x hx => by rw [hw, logs_mem]; exact .inl hx, fun x hx => ?_, fun x hx hn => ?_⟩
 ·intro x hx
  rw [hh, app_get, look_none (fun p hp e => by have := hd p hp; omega)]
  exact hl x (by omega)
 ·rw [hw, logs_mem] at hx
  rcases hx with hx | hx
  ·exact .inl hx
  ·exact .inr hx.1
 ·rw [hw, logs_mem] at hn
  have hnd : ∀ p ∈ dl, p.1 ≠ x := fun p hp e => hn (.inr ⟨hx, by rw [← e]; exact List.mem_map_of_mem hp⟩)
  rw [hh, app_get, look_none hnd]
def OutKeeps (s : St) : Out → Prop
 | .go s' => Keeps s s'
 | .done _ s' => Keeps s s'
 | .pick l => ∀ r, r ∈ l → Good s.nx r
 | .stop s' => Keeps s s'
 | _ => True
section
variable {P : Program} {G : Nat} {X : FuncId → Option ExtK} {s s1 : St}

theorem putV_keeps {x : AV} (h : Keeps s s1) : OutKeeps s (putV s1 x) := by
 unfold putV
 split
 ·exact h.trans (.of h.low rfl rfl rfl rfl)
 ·trivial
theorem good_turn {r : R} (hl : Low s.hp s.nx) (h : Good s.nx r) : Keeps s (s.turn r.dl r.nx) := .turn hl h.1 h.2 rfl rfl rfl rfl
theorem leaveA_keeps (hl : Low s.hp s.nx) (j : Option Code) : OutKeeps s (leaveA s j) := by
 unfold leaveA
 split
 ·split
  ·exact .of hl rfl rfl rfl rfl
  ·exact .of hl rfl rfl rfl rfl
  ·trivial
 ·rename_i id _
  split
  ·rename_i hg
   have key : ∀ b, Keeps s (s.turn [(id, some b)] s.nx) := fun b => .turn hl (Nat.le_refl _) (by simpa using hl.lt hg) rfl rfl rfl rfl
   dsimp only
   split
   ·split
    ·exact (key _).trans (.of (key _).low rfl rfl rfl rfl)
    ·trivial
   ·exact key _
  ·trivial
theorem rangeA_keeps (hl : Low s.hp s.nx) {f : AV} {ps : Array Tmp} {a b : Code} {k : List AI} : OutKeeps s (rangeA P s f ps a b k) := by
 unfold rangeA
 split
 ·split
  ·split
   ·refine .turn (dl := [(s.nx, some .dfr), (s.nx + 1, some (.loop .ready none s.fr.fn s.fr.sz s.fr.tm ps.toList a b s.nx))]) (nx := s.nx + 2) hl ?_ ?_ rfl rfl rfl rfl
    ·omega
    ·intro p hp
     simp only [List.mem_cons, List.not_mem_nil, or_false] at hp
     rcases hp with rfl | rfl <;> simp
   ·trivial
  ·split
   ·split
    ·rename_i d _ _ _ _
     refine .turn (dl := [(s.nx, some (.loop .ready none s.fr.fn s.fr.sz s.fr.tm ps.toList a b d))]) (nx := s.nx + 1) hl ?_ ?_ rfl rfl rfl rfl
     ·omega
     ·intro p hp
      simp only [List.mem_cons, List.not_mem_nil, or_false] at hp
      subst hp; simp
    ·trivial
   ·trivial
 ·trivial
theorem codeA_keeps (hl : Low s.hp s.nx) {c : Code} {k : List AI} : OutKeeps s (codeA P G s c k) := by
 cases c with
 | cond c x y =>
  unfold codeA; dsimp only
  split
  ·exact .of hl rfl rfl rfl rfl
  ·exact .of hl rfl rfl rfl rfl
  ·trivial
 | exit id =>
  unfold codeA; dsimp only
  split
  ·exact .of hl rfl rfl rfl rfl
  ·cases noStop k with
   | true => exact leaveA_keeps hl (some (.exit id))
   | false => trivial
 | goto l =>
  unfold codeA; dsimp only
  split
  ·exact .of hl rfl rfl rfl rfl
  ·cases noStop k with
   | true => exact leaveA_keeps hl (some (.goto l))
   | false => trivial
 | ret => exact leaveA_keeps hl (some .ret)
 | region id ops d => cases d with
  | true => trivial
  | false => exact .of hl rfl rfl rfl rfl
 | rangeFunc g ps a b => exact rangeA_keeps hl
 | refuse w => trivial
 | _ => exact .of hl rfl rfl rfl rfl
theorem callA_keeps (hl : Low s.hp s.nx) {c : Callk} : OutKeeps s (callA P G X s c) := by
 unfold callA
 split
 ·split
  ·rename_i hr; exact putV_keeps (good_turn hl (extO_good hl hr))
  ·split
   ·exact .of hl rfl rfl rfl rfl
   ·trivial
 ·split
  ·exact .of hl rfl rfl rfl rfl
  ·trivial
theorem operA_keeps (hl : Low s.hp s.nx) {o : Oper} : OutKeeps s (operA P G X s o) := by
 unfold operA
 split
 ·rename_i hr; exact putV_keeps (good_turn hl (aop_good hl hr))
 ·split
  ·split
   ·exact callA_keeps hl
   ·trivial
  ·split
   ·rename_i hpk; exact picks_good hl hpk
   ·trivial
  ·trivial
theorem retA_keeps (hl : Low s.hp s.nx) : OutKeeps s (retA P s) := by
 unfold retA
 split
 ·split
  ·rename_i d _ _ _ hg
   exact .turn (dl := [(d, none)]) hl (Nat.le_refl _) (by simpa using hl.lt hg) rfl rfl rfl rfl
  ·trivial
 ·split
  ·split
   ·split
    ·exact .of hl rfl rfl rfl rfl
    ·split
     ·exact .of hl rfl rfl rfl rfl
     ·trivial
   ·trivial
  ·trivial
theorem begA_keeps (hl : Low s.hp s.nx) {k : List AI} : OutKeeps s (begA s k) := by
 unfold begA
 split
 ·rename_i id _
  split
  ·rename_i pend fn sz tm ps a b d hg
   exact .turn (dl := [(id, some (.loop .busy pend fn sz tm ps a b d))]) hl (Nat.le_refl _) (by simpa using hl.lt hg) rfl rfl rfl rfl
  ·trivial
 ·trivial
theorem endRFA_keeps (hl : Low s.hp s.nx) {id : Nat} {k : List AI} : OutKeeps s (endRFA s id k) := by
 unfold endRFA
 split
 ·rename_i st pend fn sz tm ps a b d hg
  split
  ·trivial
  ·exact .turn (dl := [(id, some (.loop .exhausted pend fn sz tm ps a b d))]) hl (Nat.le_refl _) (by simpa using hl.lt hg) rfl rfl rfl rfl
 ·trivial
theorem stp_keeps (hl : Low s.hp s.nx) : OutKeeps s (stp P G X s) := by
 unfold stp
 split
 ·exact retA_keeps hl
 ·unfold todoA
  split
  ·split
   ·exact operA_keeps hl
   ·exact putV_keeps (.of hl rfl rfl rfl rfl)
   ·trivial
  ·exact .of hl rfl rfl rfl rfl
  ·exact codeA_keeps hl
  ·exact .of hl rfl rfl rfl rfl
  ·exact .of hl rfl rfl rfl rfl
  ·exact .of hl rfl rfl rfl rfl
  ·exact begA_keeps hl
  ·exact endRFA_keeps hl
  ·trivial
  ·unfold stopA
   split
   ·exact .of hl rfl rfl rfl rfl
   ·trivial
  ·exact leaveA_keeps hl _
end
end Go.Ex
set_option linter.unusedVariables false
set_option linter.unusedSimpArgs false
namespace Go.Ex

theorem maxN_le (a b : Nat) : a ≤ maxN a b ∧ b ≤ maxN a b := by
 unfold maxN
 cases h : Nat.ble a b with
 | true => exact ⟨ble_iff.1 h, Nat.le_refl _⟩
 | false => exact ⟨Nat.le_refl _, Nat.le_of_lt (ble_iff_f.1 h)⟩
theorem below_mem {n x : Nat} : ∀ {l : List Nat}, x ∈ below n l ↔ x ∈ l ∧ x < n := by
 intro l
 induction l with
 | nil => simp [below]
 | cons y l ih =>
  simp only [below, List.mem_cons]
  cases h : Nat.blt y n with
  | true =>
   rw [blt_iff] at h
   simp only [cond_true, List.mem_cons, ih]
   constructor
   ·rintro (rfl | ⟨h1, h2⟩)
    ·exact ⟨.inl rfl, h⟩
    ·exact ⟨.inr h1, h2⟩
   ·rintro ⟨rfl | h1, h2⟩
    ·exact .inl rfl
    ·exact .inr ⟨h1, h2⟩
  | false =>
   rw [blt_iff_f] at h
   simp only [cond_false, ih]
   constructor
   ·rintro ⟨h1, h2⟩; exact ⟨.inr h1, h2⟩
   ·rintro ⟨rfl | h1, h2⟩
    ·omega
    ·exact ⟨h1, h2⟩
theorem eqK_to {a b : IntKind} (h : eqK a b = true) : a = b := by cases a <;> cases b <;> first | rfl | cases h
theorem eqI_to {a b : Int} (h : eqI a b = true) : a = b := by
 cases a <;> cases b <;> simp only [eqI] at h
 ·rw [beq_iff.1 h]
 ·cases h
 ·cases h
 ·rw [beq_iff.1 h]
theorem eqS_to : ∀ {a b : List Nat}, eqS a b = true → a = b := by
 intro a
 induction a with
 | nil => intro b h; cases b with
  | nil => rfl
  | cons y b => cases h
 | cons x a ih =>
  intro b h
  cases b with
  | nil => cases h
  | cons y b =>
   simp only [eqS_nn, eqS_nc, eqS_cn, eqS_cc] at h
   cases hq : Nat.beq x y with
   | true => rw [hq] at h; rw [beq_iff.1 hq, ih h]
   | false => rw [hq] at h; cases h
theorem eqO_eq {a b : Option Nat} (h : eqO a b = true) : a = b := by
 cases a <;> cases b <;> simp only [eqO] at h
 ·rfl
 ·cases h
 ·cases h
 ·rw [beq_iff.1 h]
theorem lenE_eq : ∀ {a b : List AV}, lenE a b = true → a.length = b.length := by
 intro a
 induction a with
 | nil => intro b h; cases b with
  | nil => rfl
  | cons y b => cases h
 | cons x a ih =>
  intro b h
  cases b with
  | nil => cases h
  | cons y b => simp only [lenE] at h; simp [ih h]
def LeV (a b : AV) : Prop := ∀ (σ : Sg) (v : Value), Rv σ a v → Rv σ b v
theorem LeV.refl (a : AV) : LeV a a := fun _ _ h => h
theorem LeV.junk (a : AV) : LeV a .junk := fun _ v _ => .junk v
theorem LeV.trans {a b c : AV} (h : LeV a b) (k : LeV b c) : LeV a c := fun σ v x => k σ v (h σ v x)
theorem eqL_len {f : AV → AV → AV} : ∀ {a b : List AV}, lenE a b = true → (eqL f a b).length = a.length := by
 intro a
 induction a with
 | nil => intro b h; cases b with
  | nil => rfl
  | cons y b => cases h
 | cons x a ih =>
  intro b h
  cases b with
  | nil => cases h
  | cons y b => simp only [lenE] at h; simp [eqL, ih h]
theorem eqL_get {f : AV → AV → AV} : ∀ {a b : List AV} {i : Nat} {z : AV}, (eqL f a b)[i]? = some z → ∃ x y, a[i]? = some x ∧ b[i]? = some y ∧ z = f x y := by
 intro a
 induction a with
 | nil => intro b i z h; cases b <;> simp [eqL] at h
 | cons x a ih =>
  intro b i z h
  cases b with
  | nil => simp [eqL] at h
  | cons y b =>
   cases i with
   | zero => simp only [eqL, List.getElem?_cons_zero, Option.some.injEq] at h; exact ⟨x, y, rfl, rfl, h.symm⟩
   | succ i => simp only [eqL, List.getElem?_cons_succ] at h; simpa using ih h
def LeR (σ σ' : Sg) (b a : AV) : Prop := ∀ (v : Value), Rv σ b v → Rv σ' a v
def Compat (S : Nat → Nat → Bool) (σ σ' : Sg) : Prop := ∀ i j L, S i j = true → σ j = some L → σ' i = some L
section
variable {S : Nat → Nat → Bool} {σ σ' : Sg}
theorem LeR.junk (a : AV) : LeR σ σ' a .junk := fun v _ => .junk v
theorem eqL_l {f : AV → AV → AV} (hf : ∀ x y, LeV x (f x y)) {a b : List AV} {vs : List Value} (hl : lenE a b = true) (h : RL σ a vs) : RL σ (eqL f a b) vs :=
 ⟨by rw [eqL_len hl]; exact h.1, fun i z v hz hv => by obtain ⟨x, y, hx, _, rfl⟩ := eqL_get hz; exact hf x y σ v (h.2 i x v hx hv)⟩
theorem eqL_r {f : AV → AV → AV} (hf : ∀ x y, LeR σ σ' y (f x y)) {a b : List AV} {vs : List Value} (hl : lenE a b = true) (h : RL σ b vs) : RL σ' (eqL f a b) vs :=
 ⟨by rw [eqL_len hl, lenE_eq hl]; exact h.1, fun i z v hz hv => by obtain ⟨x, y, _, hy, rfl⟩ := eqL_get hz; exact hf x y v (h.2 i y v hy hv)⟩
theorem LeV.fn {f : FuncId} {a b a' b' : List AV} (h1 : ∀ (σ : Sg) vs, RL σ a vs → RL σ a' vs) (h2 : ∀ (σ : Sg) vs, RL σ b vs → RL σ b' vs) : LeV (.fn f a b) (.fn f a' b') := fun σ v h => by
 obtain ⟨va, vb, ha, hb, rfl⟩ := h.inv_fn
 exact .fn f _ _ va vb (h1 _ _ ha).1 (h2 _ _ hb).1 (h1 _ _ ha).2 (h2 _ _ hb).2
theorem LeV.agg {a a' : List AV} (h1 : ∀ (σ : Sg) vs, RL σ a vs → RL σ a' vs) : LeV (.agg a) (.agg a') := fun σ v h => by
 obtain ⟨va, ha, ho, rfl⟩ := h.inv_agg
 exact .agg _ va (h1 _ _ ha).1 ho (h1 _ _ ha).2
theorem LeV.tup {a a' : List AV} (h1 : ∀ (σ : Sg) vs, RL σ a vs → RL σ a' vs) : LeV (.tup a) (.tup a') := fun σ v h => by
 obtain ⟨va, ha, rfl⟩ := h.inv_tup
 exact .tup _ va (h1 _ _ ha).1 (h1 _ _ ha).2
theorem LeV.iface {t : TypeId} {a a' : AV} (h1 : LeV a a') : LeV (.iface t a) (.iface t a') := fun σ v h => by
 obtain ⟨w, ha, rfl⟩ := h.inv_iface
 exact .iface _ _ _ (h1 _ _ ha)
theorem LeR.fn {f : FuncId} {a b a' b' : List AV} (h1 : ∀ vs, RL σ a vs → RL σ' a' vs) (h2 : ∀ vs, RL σ b vs → RL σ' b' vs) : LeR σ σ' (.fn f a b) (.fn f a' b') := fun v h => by
 obtain ⟨va, vb, ha, hb, rfl⟩ := h.inv_fn
 exact .fn f _ _ va vb (h1 _ ha).1 (h2 _ hb).1 (h1 _ ha).2 (h2 _ hb).2
theorem LeR.agg {a a' : List AV} (h1 : ∀ vs, RL σ a vs → RL σ' a' vs) : LeR σ σ' (.agg a) (.agg a') := fun v h => by
 obtain ⟨va, ha, ho, rfl⟩ := h.inv_agg
 exact .agg _ va (h1 _ ha).1 ho (h1 _ ha).2
theorem LeR.tup {a a' : List AV} (h1 : ∀ vs, RL σ a vs → RL σ' a' vs) : LeR σ σ' (.tup a) (.tup a') := fun v h => by
 obtain ⟨va, ha, rfl⟩ := h.inv_tup
 exact .tup _ va (h1 _ ha).1 (h1 _ ha).2
theorem LeR.iface {t : TypeId} {a a' : AV} (h1 : LeR σ σ' a a') : LeR σ σ' (.iface t a) (.iface t a') := fun v h => by
 obtain ⟨w, ha, rfl⟩ := h.inv_iface
 exact .iface _ _ _ (h1 _ ha)
theorem LeV.bif {c : Bool} {a x : AV} (h : c = true → LeV a x) : LeV a (bif c then x else .junk) := by
 cases c with
 | true => exact h rfl
 | false => exact .junk a
theorem LeR.bif {c : Bool} {a x : AV} (h : c = true → LeR σ σ' a x) : LeR σ σ' a (bif c then x else .junk) := by
 cases c with
 | true => exact h rfl
 | false => exact .junk a
theorem join_le (S : Nat → Nat → Bool) : ∀ n a b, LeV a (joinV S n a b) := by
 intro n
 induction n with
 | zero => intro a b; exact .junk a
 | succ n ih =>
  intro a b
  unfold joinV
  split
  case h_1 => exact .bif fun _ => .refl _
  case h_2 => exact .bif fun _ => .refl _
  case h_3 => exact .bif fun _ => .refl _
  case h_4 => exact .refl _
  case h_5 => exact .bif fun _ => .refl _
  case h_6 => exact .refl _
  case h_7 => exact .bif fun _ => .refl _
  case h_8 => exact .refl _
  case h_9 => exact .refl _
  case h_10 => exact .bif fun _ => .refl _
  case h_11 =>
   refine .bif fun h => ?_
   simp only [Bool.and_eq_true] at h
   exact .fn (fun σ vs => eqL_l ih h.1.2) (fun σ vs => eqL_l ih h.2)
  case h_12 => exact .bif fun _ => .refl _
  case h_13 => exact .refl _
  case h_14 => exact .bif fun _ => .iface (ih _ _)
  case h_15 => exact .refl _
  case h_16 => exact .bif fun h => .agg fun σ vs => eqL_l ih h
  case h_17 => exact .bif fun h => .tup fun σ vs => eqL_l ih h
  case h_18 => exact .junk _
theorem join_ri (hc : Compat S σ σ') : ∀ n a b, LeR σ σ' b (joinV S n a b) := by
 intro n
 induction n with
 | zero => intro a b; exact .junk b
 | succ n ih =>
  intro a b
  unfold joinV
  split
  case h_1 =>
   refine .bif fun h v hv => ?_
   rw [hv.inv_bool, eq_of_beq h]; exact .bool _
  case h_2 =>
   refine .bif fun h v hv => ?_
   simp only [Bool.and_eq_true] at h
   rw [hv.inv_int, eqK_to h.1, eqI_to h.2]; exact .int _ _
  case h_3 =>
   refine .bif fun h v hv => ?_
   obtain ⟨u, rfl, e⟩ := hv.inv_str
   rw [eqS_to h, e]; exact .str _
  case h_4 => intro v hv; rw [hv.inv_nilp]; exact .nilp
  case h_5 =>
   refine .bif fun h v hv => ?_
   simp only [Bool.and_eq_true] at h
   obtain ⟨b, z, h1, rfl⟩ := hv.inv_ptr
   rw [beq_iff.1 h.2]; exact .ptr _ _ _ _ (hc _ _ _ h.1 h1)
  case h_6 => intro v hv; rw [hv.inv_nils]; exact .nils
  case h_7 =>
   refine .bif fun h v hv => ?_
   simp only [Bool.and_eq_true] at h
   obtain ⟨⟨⟨⟨h1, h2⟩, h3⟩, h4⟩, h5⟩ := h
   rw [beq_iff.1 h2, beq_iff.1 h3, eqO_eq h4, beq_iff.1 h5]
   cases hv with
   | slc _ _ _ _ _ b z h => exact .slc _ _ _ _ _ _ _ (hc _ _ _ h1 h)
   | slo _ _ _ _ _ b z h hz hm => exact .slo _ _ _ _ _ _ _ (hc _ _ _ h1 h) hz hm
  case h_8 => intro v hv; obtain ⟨a, c, rfl⟩ := hv.inv_sle; exact .sle _ _
  case h_9 => intro v hv; rw [hv.inv_nilm]; exact .nilm
  case h_10 =>
   refine .bif fun h v hv => ?_
   obtain ⟨b, z, h1, rfl⟩ := hv.inv_map
   exact .map _ _ _ (hc _ _ _ h h1)
  case h_11 =>
   refine .bif fun h => ?_
   simp only [Bool.and_eq_true] at h
   rw [beq_iff.1 h.1.1]
   exact .fn (fun vs => eqL_r ih h.1.2) (fun vs => eqL_r ih h.2)
  case h_12 =>
   refine .bif fun h v hv => ?_
   obtain ⟨b, z, h1, rfl⟩ := hv.inv_yl
   exact .yl _ _ _ (hc _ _ _ h h1)
  case h_13 => intro v hv; rw [hv.inv_nilf]; exact .nilf
  case h_14 =>
   refine .bif fun h => ?_
   rw [beq_iff.1 h]; exact .iface (ih _ _)
  case h_15 => intro v hv; rw [hv.inv_nili]; exact .nili
  case h_16 => exact .bif fun h => .agg fun vs => eqL_r ih h
  case h_17 => exact .bif fun h => .tup fun vs => eqL_r ih h
  case h_18 => exact .junk _
def LeB (a b : Blk) : Prop := b.wr = a.wr ∧ ∀ (σ : Sg) (z : Nat) (o : Obj), Ro σ z a o → Ro σ z b o
theorem LeB.refl (a : Blk) : LeB a a := ⟨rfl, fun _ _ _ h => h⟩
def LeBr (σ σ' : Sg) (a b : Blk) : Prop := b.wr = a.wr ∧ ∀ (z : Nat) (o : Obj), Ro σ z a o → Ro σ' z b o
theorem Ro.cellsTo {z : Nat} {ob : Obj} {w o : Bool} {tt tt' : Option TypeId} {l l' : List AV} (hr : Ro σ z (.cells w o tt l) ob) (ht : ∀ a, tt' = some a → tt = some a) (hlen : l'.length = l.length) (h : ∀ (i : Nat) x', l'[i]? = some x' → ∃ x, l[i]? = some x ∧ LeR σ σ' x x') : Ro σ' z (.cells w o tt' l') ob := by
 cases hr with
 | cells _ _ _ _ c t fr htt hz ho hl hf h1 hv =>
  refine .cells _ _ _ _ c t fr (fun a ha => htt a (ht a ha)) hz (fun e => by rw [hlen]; exact ho e) (by rw [hlen]; exact hl) hf h1 fun i x' hx' => ?_
  obtain ⟨x, hx, hle⟩ := h i x' hx'
  obtain ⟨v, g1, g2⟩ := hv i x hx
  exact ⟨v, g1, hle _ g2⟩
theorem Ro.mapTo {z : Nat} {ob : Obj} {w : Bool} {es es' : List (AV × AV × Nat)} {c : Nat} (hr : Ro σ z (.map w es c) ob) (hlen : es'.length = es.length)
  (h : ∀ (i : Nat) x', es'[i]? = some x' → ∃ x, es[i]? = some x ∧ LeR σ σ' x.1 x'.1 ∧ LeR σ σ' x.2.1 x'.2.1 ∧ x'.2.2 = x.2.2) : Ro σ' z (.map w es' c) ob := by
 cases hr with
 | map _ _ A _ hl hA =>
  refine .map _ _ A _ (by rw [hlen]; exact hl) fun i x' e hx' he => ?_
  obtain ⟨x, hx, h1, h2, h3⟩ := h i x' hx'
  obtain ⟨g1, g2, g3⟩ := hA i x e hx he
  exact ⟨h1 _ g1, h2 _ g2, by rw [h3]; exact g3⟩
theorem joinE_spec : ∀ {a b r : List (AV × AV × Nat)}, joinE S a b = some r → r.length = a.length ∧ r.length = b.length ∧
  ∀ (i : Nat) x', r[i]? = some x' → ∃ x y, a[i]? = some x ∧ b[i]? = some y ∧ x'.1 = joinV S 20 x.1 y.1 ∧ x'.2.1 = joinV S 20 x.2.1 y.2.1 ∧ x'.2.2 = x.2.2 ∧ x'.2.2 = y.2.2 := by
 intro a
 induction a with
 | nil =>
  intro b r h
  cases b with
  | nil => simp only [joinE, Option.some.injEq] at h; subst h; simp
  | cons y b => simp [joinE] at h
 | cons x a ih =>
  intro b r h
  cases b with
  | nil => simp [joinE] at h
  | cons y b =>
   obtain ⟨k, v, bo⟩ := x
   obtain ⟨k', v', bo'⟩ := y
   simp only [joinE] at h
   rcases cond_eq_some h with ⟨hq, h'⟩ | ⟨_, h'⟩
   ·simp only [Bool.and_eq_true] at hq
    have hq := beq_iff.1 hq.1
    split at h'
    ·rename_i r' hr'
     simp only [Option.some.injEq] at h'; subst h'
     obtain ⟨g1, g2, g3⟩ := ih hr'
     refine ⟨by simp [g1], by simp [g2], fun i x' hx' => ?_⟩
     cases i with
     | zero =>
      simp only [List.getElem?_cons_zero, Option.some.injEq] at hx'; subst hx'
      exact ⟨_, _, rfl, rfl, rfl, rfl, rfl, hq⟩
     | succ i => simp only [List.getElem?_cons_succ] at hx' ⊢; exact g3 i x' hx'
    ·cases h'
   ·cases h'
theorem pullK_perm {k : AV} : ∀ {es : List (AV × AV)} {y : AV × AV} {r : List (AV × AV)}, pullK k es = some (y, r) → List.Perm (y :: r) es := by
 intro es
 induction es with
 | nil => intro y r h; cases h
 | cons x es ih =>
  intro y r h
  simp only [pullK] at h
  rcases cond_eq_some h with ⟨_, h'⟩ | ⟨_, h'⟩
  ·cases h'; exact .refl _
  ·split at h'
   ·rename_i y' r' hr'
    cases h'
    exact (List.Perm.swap x y r').trans ((ih hr').cons x)
   ·cases h'
theorem joinU_spec : ∀ {a b r : List (AV × AV)}, joinU S a b = some r → r.length = a.length ∧ (∀ (i : Nat) x', r[i]? = some x' → ∃ x, a[i]? = some x ∧ LeV x.1 x'.1 ∧ LeV x.2 x'.2) ∧
  ∃ b', List.Perm b' b ∧ r.length = b'.length ∧ ∀ (i : Nat) (x' : AV × AV), r[i]? = some x' → ∃ (x y : AV × AV), b'[i]? = some y ∧ x'.1 = joinV S 20 x.1 y.1 ∧ x'.2 = joinV S 20 x.2 y.2 := by
 intro a
 induction a with
 | nil =>
  intro b r h
  cases b with
  | nil => simp only [joinU, Option.some.injEq] at h; subst h; exact ⟨rfl, by simp, [], .refl _, rfl, by simp⟩
  | cons y b => simp [joinU] at h
 | cons x a ih =>
  intro b r h
  simp only [joinU] at h
  split at h
  ·rename_i y m' hp
   split at h
   ·rename_i r' hr'
    simp only [Option.some.injEq] at h; subst h
    obtain ⟨g1, g2, b', g3, g4, g5⟩ := ih hr'
    refine ⟨by simp [g1], fun i x' hx' => ?_, y :: b', (g3.cons y).trans (pullK_perm hp), by simp [g4], fun i x' hx' => ?_⟩
    ·cases i with
     | zero =>
      simp only [List.getElem?_cons_zero, Option.some.injEq] at hx'; subst hx'
      exact ⟨x, rfl, join_le _ _ _ _, join_le _ _ _ _⟩
     | succ i => simp only [List.getElem?_cons_succ] at hx' ⊢; exact g2 i x' hx'
    ·cases i with
     | zero =>
      simp only [List.getElem?_cons_zero, Option.some.injEq] at hx'; subst hx'
      exact ⟨x, y, rfl, rfl, rfl⟩
     | succ i => simp only [List.getElem?_cons_succ] at hx' ⊢; exact g5 i x' hx'
   ·cases h
  ·cases h
theorem perm_pair {R : AV × AV → MapEntry → Prop} {l m : List (AV × AV)} (h : List.Perm l m) : ∀ {ms : List MapEntry}, l.length = ms.length → (∀ (i : Nat) x e, l[i]? = some x → ms[i]? = some e → R x e) →
  ∃ ns, List.Perm ns ms ∧ m.length = ns.length ∧ ∀ (i : Nat) x e, m[i]? = some x → ns[i]? = some e → R x e := by
 induction h with
 | nil => intro ms hl _; exact ⟨ms, .refl _, hl, by simp⟩
 | cons x _ ih =>
  intro ms hl hR
  cases ms with
  | nil => simp at hl
  | cons e ms =>
   obtain ⟨ns, g1, g2, g3⟩ := ih (ms := ms) (by simpa using hl) fun i y f hy hf => hR (i + 1) y f (by simpa using hy) (by simpa using hf)
   refine ⟨e :: ns, g1.cons e, by simp [g2], fun i y f hy hf => ?_⟩
   cases i with
   | zero => simp at hy hf; subst hy; subst hf; exact hR 0 x e rfl rfl
   | succ i => simp at hy hf; exact g3 i y f hy hf
 | swap x y l =>
  intro ms hl hR
  match ms, hl with
  | e :: f :: ms, hl =>
   refine ⟨f :: e :: ms, .swap e f ms, by simpa using hl, fun i z g hz hg => ?_⟩
   match i with
   | 0 => simp at hz hg; subst hz; subst hg; exact hR 1 x f rfl rfl
   | 1 => simp at hz hg; subst hz; subst hg; exact hR 0 y e rfl rfl
   | i + 2 => exact hR (i + 2) z g (by simpa using hz) (by simpa using hg)
 | trans _ _ ih1 ih2 =>
  intro ms hl hR
  obtain ⟨ns, g1, g2, g3⟩ := ih1 hl hR
  obtain ⟨ks, k1, k2, k3⟩ := ih2 g2 g3
  exact ⟨ks, k1.trans g1, k2, k3⟩
theorem dropB_len : ∀ (es : List (AV × AV × Nat)), (dropB es).length = es.length := by
 intro es
 induction es with
 | nil => rfl
 | cons e es ih => simp [dropB, ih]
theorem dropB_get : ∀ {es : List (AV × AV × Nat)} {i : Nat} {x : AV × AV}, (dropB es)[i]? = some x → ∃ e, es[i]? = some e ∧ x = (e.1, e.2.1) := by
 intro es
 induction es with
 | nil => intro i x h; simp [dropB] at h
 | cons e es ih =>
  intro i x h
  cases i with
  | zero => simp only [dropB, List.getElem?_cons_zero, Option.some.injEq] at h; exact ⟨e, rfl, h.symm⟩
  | succ i => simp only [dropB, List.getElem?_cons_succ] at h; simpa using ih h
theorem asU_ok {b : Blk} {w : Bool} {es : List (AV × AV)} {c : Nat} (h : asU b = some (w, es, c)) : b.wr = w ∧ ∀ (σ : Sg) (z : Nat) (o : Obj), Ro σ z b o →
  ∃ (a : Array MapEntry) (ms : List MapEntry), o = .map a c ∧ List.Perm ms a.toList ∧ es.length = ms.length ∧ ∀ (i : Nat) x e, es[i]? = some x → ms[i]? = some e → Rv σ x.1 e.key ∧ Rv σ x.2 e.val := by
 cases b with
 | map w' es' c' =>
  simp only [asU, Option.some.injEq, Prod.mk.injEq] at h
  obtain ⟨rfl, rfl, rfl⟩ := h
  refine ⟨rfl, fun σ z o hr => ?_⟩
  cases hr with
  | map _ _ a _ hl h =>
   refine ⟨a, a.toList, rfl, .refl _, by rw [dropB_len]; simpa using hl, fun i x e hx he => ?_⟩
   obtain ⟨y, hy, rfl⟩ := dropB_get hx
   obtain ⟨g1, g2, _⟩ := h i y e hy (by simpa using he)
   exact ⟨g1, g2⟩
 | umap w' es' c' =>
  simp only [asU, Option.some.injEq, Prod.mk.injEq] at h
  obtain ⟨rfl, rfl, rfl⟩ := h
  refine ⟨rfl, fun σ z o hr => ?_⟩
  cases hr with
  | umap _ _ a ms _ hp hl h => exact ⟨a, ms, rfl, hp, hl, h⟩
 | _ => simp [asU] at h
theorem joinM_spec {p q b : Blk} (h : joinM S p q = some b) : LeB p b ∧ ∀ σ σ', Compat S σ σ' → LeBr σ σ' q b := by
 unfold joinM at h
 split at h
 ·rename_i w es c w' es' c' hp hq
  rcases cond_eq_some h with ⟨hc, h'⟩ | ⟨_, h'⟩
  ·simp only [Bool.and_eq_true] at hc
   have e1 := eq_of_beq hc.1
   have e2 := beq_iff.1 hc.2
   subst e1; subst e2
   split at h'
   ·rename_i r hr
    simp only [Option.some.injEq] at h'; subst h'
    obtain ⟨g1, g2, b', g3, g4, g5⟩ := joinU_spec hr
    obtain ⟨p1, p2⟩ := asU_ok hp
    obtain ⟨q1, q2⟩ := asU_ok hq
    refine ⟨⟨p1.symm, fun σ z o ho => ?_⟩, fun σ σ' hcm => ⟨q1.symm, fun z o ho => ?_⟩⟩
    ·obtain ⟨a, ms, rfl, k1, k2, k3⟩ := p2 σ z o ho
     refine .umap _ r a ms c k1 (by rw [g1]; exact k2) fun i x' e hx' he => ?_
     obtain ⟨x, hx, l1, l2⟩ := g2 i x' hx'
     obtain ⟨m1, m2⟩ := k3 i x e hx he
     exact ⟨l1 _ _ m1, l2 _ _ m2⟩
    ·obtain ⟨a, ms, rfl, k1, k2, k3⟩ := q2 σ z o ho
     obtain ⟨ns, n1, n2, n3⟩ := perm_pair g3.symm k2 k3
     refine .umap _ r a ns c (n1.trans k1) (by rw [g4]; exact n2) fun i x' e hx' he => ?_
     obtain ⟨x, y, hy, l1, l2⟩ := g5 i x' hx'
     obtain ⟨m1, m2⟩ := n3 i y e hy he
     exact ⟨by rw [l1]; exact join_ri hcm _ _ _ _ m1, by rw [l2]; exact join_ri hcm _ _ _ _ m2⟩
   ·cases h'
  ·cases h'
 ·cases h
theorem eqO_t {t t' : Option TypeId} {a : TypeId} (h : (bif eqO t t' then t else none) = some a) : t = some a ∧ t' = some a := by
 rcases cond_eq_some h with ⟨hq, h'⟩ | ⟨_, h'⟩
 ·subst h'
  cases t' with
  | none => cases hq
  | some b => exact ⟨rfl, by rw [beq_iff.1 hq]⟩
 ·cases h'
theorem joinB_spec {p q : Option Blk} {b : Blk} (h : joinB S p q = some b) : ∃ b1 b2, p = some b1 ∧ q = some b2 ∧ LeB b1 b ∧ ∀ σ σ', Compat S σ σ' → LeBr σ σ' b2 b := by
 unfold joinB at h
 split at h
 ·rcases cond_eq_some h with ⟨hq, h'⟩ | ⟨_, h'⟩
  ·simp only [Bool.and_eq_true] at hq
   simp only [Option.some.injEq] at h'; subst h'
   refine ⟨_, _, rfl, rfl, ⟨rfl, fun σ z o hr => hr.cellsTo (fun a ha => (eqO_t ha).1) (eqL_len hq.2) fun i x' hx' => ?_⟩, fun σ σ' hc => ?_⟩
   ·obtain ⟨x, y, hx, _, rfl⟩ := eqL_get hx'
    exact ⟨x, hx, fun v hv => join_le S _ _ _ σ v hv⟩
   ·have e1 := eq_of_beq hq.1.1
    have e2 := eq_of_beq hq.1.2
    subst e1; subst e2
    refine ⟨rfl, fun z o hr => hr.cellsTo (fun a ha => (eqO_t ha).2) (by rw [eqL_len hq.2, lenE_eq hq.2]) fun i x' hx' => ?_⟩
    obtain ⟨x, y, _, hy, rfl⟩ := eqL_get hx'
    exact ⟨y, hy, join_ri hc _ _ _⟩
  ·cases h'
 ·split at h
  ·rename_i r hr
   rcases cond_eq_some hr with ⟨hq, hr⟩ | ⟨_, hr⟩
   ·simp only [Bool.and_eq_true] at hq
    simp only [Option.some.injEq] at h; subst h
    obtain ⟨g1, g2, g3⟩ := joinE_spec hr
    refine ⟨_, _, rfl, rfl, ⟨rfl, fun σ z o hr => hr.mapTo g1 fun i x' hx' => ?_⟩, fun σ σ' hc => ?_⟩
    ·obtain ⟨x, y, h1, _, h3, h4, h5, _⟩ := g3 i x' hx'
     exact ⟨x, h1, by rw [h3]; exact fun v hv => join_le S _ _ _ σ v hv, by rw [h4]; exact fun v hv => join_le S _ _ _ σ v hv, h5⟩
    ·have e1 := eq_of_beq hq.1
     have e2 := beq_iff.1 hq.2
     subst e1; subst e2
     refine ⟨rfl, fun z o hr => hr.mapTo g2 fun i x' hx' => ?_⟩
     obtain ⟨x, y, _, h2, h3, h4, _, h6⟩ := g3 i x' hx'
     exact ⟨y, h2, by rw [h3]; exact join_ri hc _ _ _, by rw [h4]; exact join_ri hc _ _ _, h6⟩
   ·cases hr
  ·obtain ⟨g1, g2⟩ := joinM_spec h
   exact ⟨_, _, rfl, rfl, g1, g2⟩
 ·simp only [Option.some.injEq] at h; subst h
  exact ⟨_, _, rfl, rfl, .refl _, fun σ σ' _ => ⟨rfl, fun z o hr => by cases hr; exact .dfr⟩⟩
 ·obtain ⟨g1, g2⟩ := joinM_spec h
  exact ⟨_, _, rfl, rfl, g1, g2⟩
 ·cases h
theorem joinHp_get {a b : Tr Blk} {x : Nat} {bl : Blk} : ∀ {l : List (Nat × Nat)} {hp : Tr Blk}, (joinHp S a b l hp).get x = some bl → (∃ y, (x, y) ∈ l ∧ joinB S (a.get x) (b.get y) = some bl) ∨ ((∀ y, (x, y) ∉ l) ∧ hp.get x = some bl) := by
 intro l
 induction l with
 | nil => intro hp h; exact .inr ⟨by simp, h⟩
 | cons p l ih =>
  intro hp h
  obtain ⟨x0, y0⟩ := p
  simp only [joinHp] at h
  rcases ih h with ⟨y, h1, h2⟩ | ⟨h1, h2⟩
  ·exact .inl ⟨y, by simp [h1], h2⟩
  ·by_cases e : x = x0
   ·subst e
    rw [Tr.get_set_same] at h2
    exact .inl ⟨y0, by simp, h2⟩
   ·rw [Tr.get_set_other _ _ e] at h2
    refine .inr ⟨fun y hy => ?_, h2⟩
    rcases List.mem_cons.1 hy with h3 | h3
    ·cases h3; exact e rfl
    ·exact h1 y h3
theorem selfP_mem {x y : Nat} : ∀ {l : List Nat}, (x, y) ∈ selfP l ↔ x ∈ l ∧ y = x := by
 intro l
 induction l with
 | nil => simp [selfP]
 | cons z l ih =>
  simp only [selfP, List.mem_cons, Prod.mk.injEq, ih]
  constructor
  ·rintro (⟨rfl, rfl⟩ | ⟨h1, rfl⟩)
   ·exact ⟨.inl rfl, rfl⟩
   ·exact ⟨.inr h1, rfl⟩
  ·rintro ⟨rfl | h1, rfl⟩
   ·exact .inl ⟨rfl, rfl⟩
   ·exact .inr ⟨h1, rfl⟩
theorem takenP_f {i j : Nat} : ∀ {l : List (Nat × Nat)}, takenP i j l = false → ∀ x y, (x, y) ∈ l → x ≠ i ∧ y ≠ j := by
 intro l
 induction l with
 | nil => intro _ x y h; cases h
 | cons p l ih =>
  intro h x y hm
  obtain ⟨x0, y0⟩ := p
  simp only [takenP] at h
  cases hq : (Nat.beq x0 i || Nat.beq y0 j) with
  | true => rw [hq] at h; cases h
  | false =>
   rw [hq] at h
   simp only [Bool.or_eq_false_iff] at hq
   rcases List.mem_cons.1 hm with e | hm
   ·cases e; exact ⟨beq_iff_f.1 hq.1, beq_iff_f.1 hq.2⟩
   ·exact ih h x y hm
theorem okP_spec {nx top : Nat} : ∀ {l : List (Nat × Nat)}, okP nx top l = true → (∀ (x y : Nat), (x, y) ∈ l → nx ≤ x ∧ x < top ∧ nx ≤ y ∧ lookP x l = some y) ∧ ∀ (x x' y : Nat), (x, y) ∈ l → (x', y) ∈ l → x = x' := by
 intro l
 induction l with
 | nil => intro _; exact ⟨fun x y h => (by cases h), fun x x' y h => (by cases h)⟩
 | cons p l ih =>
  intro h
  obtain ⟨x0, y0⟩ := p
  simp only [okP] at h
  cases hq : (Nat.ble nx x0 && Nat.blt x0 top && Nat.ble nx y0 && !takenP x0 y0 l) with
  | false => rw [hq] at h; cases h
  | true =>
   rw [hq] at h
   simp only [Bool.and_eq_true, Bool.not_eq_true'] at hq
   obtain ⟨⟨⟨h1, h2⟩, h3⟩, h4⟩ := hq
   have ht := takenP_f h4
   obtain ⟨g1, g2⟩ := ih h
   refine ⟨fun x y hm => ?_, fun x x' y hm hm' => ?_⟩
   ·rcases List.mem_cons.1 hm with e | hm
    ·cases e; exact ⟨ble_iff.1 h1, blt_iff.1 h2, ble_iff.1 h3, by simp [lookP, beq_t]⟩
    ·obtain ⟨k1, k2, k3, k4⟩ := g1 x y hm
     exact ⟨k1, k2, k3, by simp only [lookP, beq_f (Ne.symm (ht x y hm).1), cond_false]; exact k4⟩
   ·rcases List.mem_cons.1 hm with e | hm <;> rcases List.mem_cons.1 hm' with e' | hm'
    ·cases e; cases e'; rfl
    ·cases e; exact absurd rfl (ht _ _ hm').2
    ·cases e'; exact absurd rfl (ht _ _ hm).2
    ·exact g2 x x' y hm hm'
theorem lookP_mem {x y : Nat} : ∀ {l : List (Nat × Nat)}, lookP x l = some y → (x, y) ∈ l := by
 intro l
 induction l with
 | nil => intro h; cases h
 | cons p l ih =>
  intro h
  obtain ⟨x0, y0⟩ := p
  simp only [lookP] at h
  rcases cond_eq_some h with ⟨h1, h2⟩ | ⟨_, h2⟩
  ·cases h2; rw [beq_iff.1 h1]; simp
  ·exact List.mem_cons_of_mem _ (ih h2)
end

def LeS (a s : St) : Prop := ∀ x b, s.hp.get x = some b → ∃ b', a.hp.get x = some b' ∧ LeB b' b
theorem Rel.weak {B G : Nat} {σ : Sg} {a s : St} {w : World} (h : Rel B G σ a.hp w) (hs : LeS a s) : Rel B G σ s.hp w := by
 refine ⟨fun id b hb => ?_, fun i j b c k z z' hi hj h1 h2 => ?_, h.gl⟩
 ·obtain ⟨b', g1, g2⟩ := hs id b hb
  obtain ⟨k, z, o, h1, h2, h3, h4⟩ := h.blk id b' g1
  exact ⟨k, z, o, h1, h2, g2.2 _ _ _ h3, fun e => h4 (by rw [← g2.1]; exact e)⟩
 ·obtain ⟨b', g1, _⟩ := hs i b hi
  obtain ⟨c', g2, _⟩ := hs j c hj
  exact h.inj i j b' c' k z z' g1 g2 h1 h2
theorem Ext.weak {σ τ : Sg} {hp : Tr Blk} {a s : St} {nx : Nat} {w w' : World} (h : Ext σ τ hp a.hp nx a.nx w w') (hs : LeS a s) (hn : a.nx ≤ s.nx) : Ext σ τ hp s.hp nx s.nx w w' where
 sub := h.sub
 dom := fun i L hi => by
  rcases h.dom i L hi with h1 | ⟨h1, h2⟩
  ·exact .inl h1
  ·exact .inr ⟨h1, Nat.lt_of_lt_of_le h2 hn⟩
 le := Nat.le_trans h.le hn
 os := h.os
 tape := h.tape
 output := h.output
 size := h.size
 keep := h.keep
 own := fun i b k z hb hs' => by
  obtain ⟨b', g1, g2⟩ := hs i b hb
  rcases h.own i b' k z g1 hs' with ⟨j, c, z', h1, h2, h3⟩ | h1
  ·exact .inl ⟨j, c, z', h1, h2, fun e => h3 (by rw [← g2.1]; exact e)⟩
  ·exact .inr h1
section
variable {σ τ τ' : Sg}
theorem Rv.agree (ha : ∀ n, σ n ≠ none → τ' n = τ n) {a : AV} {v : Value} (h : Rv τ a v) : ∀ {u : Value}, Rv σ a u → Rv τ' a v := by
 have name : ∀ {id : Nat} {L M : Nat × Nat}, σ id = some M → τ id = some L → τ' id = some L := fun h1 h2 => by rw [ha _ (by rw [h1]; exact fun e => by cases e)]; exact h2
 induction h with
 | junk v => intro u _; exact .junk v
 | one v h => intro u _; exact .one v h
 | bool b => intro u _; exact .bool b
 | int k n => intro u _; exact .int k n
 | flt k n => intro u _; exact .flt k n
 | str s => intro u _; exact .str s
 | nilp => intro u _; exact .nilp
 | ptr id off b z h => intro u hu; obtain ⟨_, _, h1, _⟩ := hu.inv_ptr; exact .ptr id off b z (name h1 h)
 | nils => intro u _; exact .nils
 | slc id off len c es b z h => intro u hu; obtain ⟨_, _, h1, _⟩ := hu.inv_slc; exact .slc id off len c es b z (name h1 h)
 | slo id off len c es b z h hc hm => intro u hu; obtain ⟨_, _, _, h1, _⟩ := hu.inv_slo; exact .slo id off len c es b z (name h1 h) hc hm
 | sle a c => intro u _; exact .sle a c
 | nilm => intro u _; exact .nilm
 | map id b z h => intro u hu; obtain ⟨_, _, h1, _⟩ := hu.inv_map; exact .map id b z (name h1 h)
 | fn f a b va vb la lb hva hvb iha ihb =>
  intro u hu
  obtain ⟨ua, ub, h1, h2, _⟩ := hu.inv_fn
  refine .fn f a b va vb la lb (fun i x v hx hv => ?_) (fun i x v hx hv => ?_)
  ·obtain ⟨u', _, hu'⟩ := h1.get hx; exact iha i x v hx hv hu'
  ·obtain ⟨u', _, hu'⟩ := h2.get hx; exact ihb i x v hx hv hu'
 | yl id b z h => intro u hu; obtain ⟨_, _, h1, _⟩ := hu.inv_yl; exact .yl id b z (name h1 h)
 | nilf => intro u _; exact .nilf
 | iface t v w _ ih => intro u hu; obtain ⟨_, h1, _⟩ := hu.inv_iface; exact .iface t v w (ih h1)
 | nili => intro u _; exact .nili
 | agg l vs hl h1 _ ih =>
  intro u hu
  obtain ⟨us, h2, _, _⟩ := hu.inv_agg
  refine .agg l vs hl h1 fun i x v hx hv => ?_
  obtain ⟨u', _, hu'⟩ := h2.get hx; exact ih i x v hx hv hu'
 | tup l vs hl _ ih =>
  intro u hu
  obtain ⟨us, h2, _⟩ := hu.inv_tup
  refine .tup l vs hl fun i x v hx hv => ?_
  obtain ⟨u', _, hu'⟩ := h2.get hx; exact ih i x v hx hv hu'
theorem Ro.agree (ha : ∀ n, σ n ≠ none → τ' n = τ n) {z z0 : Nat} {b : Blk} {o o0 : Obj} (h0 : Ro σ z0 b o0) (h : Ro τ z b o) : Ro τ' z b o := by
 have name : ∀ {id : Nat} {L M : Nat × Nat}, σ id = some M → τ id = some L → τ' id = some L := fun h1 h2 => by rw [ha _ (by rw [h1]; exact fun e => by cases e)]; exact h2
 cases h with
 | cells w o tt l c t fr htt hz ho hl hf h1 h =>
  cases h0 with
  | cells _ _ _ _ c0 t0 fr0 htt0 hz0 ho0 hl0 hf0 h10 h0 =>
   refine .cells w o tt l c t fr htt hz ho hl hf h1 fun i x hx => ?_
   obtain ⟨v, hv, hr⟩ := h i x hx
   obtain ⟨u, _, hu⟩ := h0 i x hx
   exact ⟨v, hv, hr.agree ha hu⟩
 | map w es a k hl h =>
  cases h0 with
  | map _ _ a0 _ hl0 h0 =>
   refine .map w es a k hl fun i x e hx he => ?_
   obtain ⟨g1, g2, g3⟩ := h i x e hx he
   have hi : i < a0.size := by rw [← hl0]; exact (List.getElem?_eq_some_iff.1 hx).1
   obtain ⟨k1, k2, _⟩ := h0 i x a0[i] hx (by simp [hi])
   exact ⟨g1.agree ha k1, g2.agree ha k2, g3⟩
 | umap w es a ms k hp hl h =>
  cases h0 with
  | umap _ _ a0 ms0 _ hp0 hl0 h0 =>
   refine .umap w es a ms k hp hl fun i x e hx he => ?_
   obtain ⟨g1, g2⟩ := h i x e hx he
   have hi : i < ms0.length := by rw [← hl0]; exact (List.getElem?_eq_some_iff.1 hx).1
   obtain ⟨k1, k2⟩ := h0 i x ms0[i] hx (by simp [hi])
   exact ⟨g1.agree ha k1, g2.agree ha k2⟩
 | siter s pos => exact .siter s pos
 | miter0 s seen c => exact .miter0 s seen c
 | miter id b z s seen c h =>
  generalize hq : Blk.miter (some id) s seen.toList c = q at h0
  cases h0 with
  | miter id' b' z' s' seen' c' h' =>
   simp only [Blk.miter.injEq, Option.some.injEq] at hq
   obtain ⟨rfl, rfl, hs, rfl⟩ := hq
   have := Array.toList_inj.1 hs
   subst this
   exact .miter _ b z _ _ _ (name h' h)
  | _ => cases hq
 | loop st pend fn zt tm ps a b df d z tmps ht hd =>
  generalize hq : Blk.loop st pend fn zt tm ps.toList a b df = q at h0
  cases h0 with
  | loop st' pend' fn' zt' tm' ps' a' b' df' d' z' tmps' ht' hd' =>
   simp only [Blk.loop.injEq] at hq
   obtain ⟨rfl, rfl, rfl, rfl, rfl, hs, rfl, rfl, rfl⟩ := hq
   have := Array.toList_inj.1 hs
   subst this
   refine .loop _ _ _ _ _ _ _ _ _ d z tmps ⟨ht.1, fun t x hx => ?_⟩ (name hd' hd)
   obtain ⟨v, hv, hr⟩ := ht.2 t x hx
   obtain ⟨u, _, hu⟩ := ht'.2 t x hx
   exact ⟨v, hv, hr.agree ha hu⟩
  | _ => cases hq
 | dfr => exact .dfr
end

def Sees (s : St) (va : AV) (a : St) (v : AV) (s' : St) : Prop := a.nx ≤ s'.nx ∧ ∀ (B G : Nat) (σ τ : Sg) (w w' : World), Rel B G σ s.hp w → Fresh σ s.nx s'.nx → Rel B G τ a.hp w' → Ext σ τ s.hp a.hp s.nx a.nx w w' →
 ∃ τ', Rel B G τ' s'.hp w' ∧ Ext σ τ' s.hp s'.hp s.nx s'.nx w w' ∧ ∀ x, Rv τ va x → Rv τ' v x
theorem Sees.refl (s : St) (v : AV) (a : St) : Sees s v a v a := ⟨Nat.le_refl _, fun _ _ _ τ _ _ _ _ h1 h2 => ⟨τ, h1, h2, fun _ h => h⟩⟩
theorem Sees.trans {s a b c : St} {va vb vc : AV} (h : Sees s va a vb b) (k : Sees s vb b vc c) : Sees s va a vc c := ⟨Nat.le_trans h.1 k.1, fun B G σ τ w w' hr hf h1 h2 => by
 obtain ⟨τ1, g1, g2, g3⟩ := h.2 B G σ τ w w' hr (fun i h1 h2 => hf i h1 (Nat.lt_of_lt_of_le h2 k.1)) h1 h2
 obtain ⟨τ2, k1, k2, k3⟩ := k.2 B G σ τ1 w w' hr hf g1 g2
 exact ⟨τ2, k1, k2, fun x hx => k3 x (g3 x hx)⟩⟩
def renS (nx top : Nat) (M : List (Nat × Nat)) (τ : Sg) : Sg := fun i => if nx ≤ i ∧ i < top then (match lookP i M with | some y => τ y | none => none) else τ i
theorem joinSt_spec {s0 a b : St} {M : List (Nat × Nat)} (hl : Low s0.hp s0.nx) (hlb : s0.nx ≤ s0.lb) (ha : Keeps s0 a) (hb : Keeps s0 b) (hM : okP s0.nx (maxN a.nx b.nx) M = true) (va vb : AV) :
  Keeps s0 (joinSt s0 M a b) ∧ Sees s0 va a (joinV (sameN s0.nx M) 20 va vb) (joinSt s0 M a b) ∧ Sees s0 vb b (joinV (sameN s0.nx M) 20 va vb) (joinSt s0 M a b) := by
 have hm := maxN_le a.nx b.nx
 obtain ⟨hM1, hM2⟩ := okP_spec hM
 have hget : ∀ x bl, (joinSt s0 M a b).hp.get x = some bl → (∃ y, (x, y) ∈ selfP (below s0.nx (a.wl ++ b.wl)) ++ M ∧ joinB (sameN s0.nx M) (a.hp.get x) (b.hp.get y) = some bl) ∨ ((∀ y, (x, y) ∉ selfP (below s0.nx (a.wl ++ b.wl)) ++ M) ∧ s0.hp.get x = some bl) := fun x bl h => joinHp_get h
 have old : ∀ x bl, (∀ y, (x, y) ∉ selfP (below s0.nx (a.wl ++ b.wl)) ++ M) → s0.hp.get x = some bl → a.hp.get x = some bl ∧ b.hp.get x = some bl := fun x bl hn hx => by
  have hlt := hl.lt hx
  have hw : x ∉ a.wl ++ b.wl := fun h => hn x (List.mem_append_left _ (selfP_mem.2 ⟨below_mem.2 ⟨h, hlt⟩, rfl⟩))
  simp only [List.mem_append, not_or] at hw
  exact ⟨(ha.same x (by omega) hw.1).trans hx, (hb.same x (by omega) hw.2).trans hx⟩
 have hles : LeS a (joinSt s0 M a b) := fun x bl hx => by
  rcases hget x bl hx with ⟨y, _, h2⟩ | ⟨h1, h2⟩
  ·obtain ⟨b1, b2, g1, _, g3, _⟩ := joinB_spec h2
   exact ⟨b1, g1, g3⟩
  ·exact ⟨bl, (old x bl h1 h2).1, .refl _⟩
 have hnone : ∀ x, s0.nx ≤ x → a.hp.get x = none → (joinSt s0 M a b).hp.get x = none := fun x hx h => by
  cases hq : (joinSt s0 M a b).hp.get x with
  | none => rfl
  | some bl =>
   obtain ⟨b', g1, _⟩ := hles x bl hq
   rw [h] at g1; cases g1
 refine ⟨⟨fun x hx => ?_, Nat.le_trans ha.le hm.1, ha.lb, fun x hx => List.mem_append_left _ (ha.wl x hx), fun x hx => ?_, fun x hx hn => ?_⟩, ⟨hm.1, fun B G σ τ w w' hr hf h1 h2 => ⟨τ, h1.weak hles, h2.weak hles hm.1, fun x hx => join_le _ _ _ _ τ x hx⟩⟩, hm.2, fun B G σ τ w w' hr hf h1 h2 => ?_⟩
 ·have hx : maxN a.nx b.nx ≤ x := hx
  exact hnone x (by have := ha.le; omega) (ha.low x (by omega))
 ·rcases List.mem_append.1 hx with h | h
  ·exact ha.wlb x h
  ·exact hb.wlb x h
 ·have hn : x ∉ a.wl ++ b.wl := hn
  simp only [List.mem_append, not_or] at hn
  rcases Nat.lt_or_ge x s0.nx with hlt | hge
  ·have hnp : ∀ y, (x, y) ∉ selfP (below s0.nx (a.wl ++ b.wl)) ++ M := fun y hy => by
    rcases List.mem_append.1 hy with h | h
    ·have := (below_mem.1 (selfP_mem.1 h).1).1
     rcases List.mem_append.1 this with h | h
     ·exact hn.1 h
     ·exact hn.2 h
    ·have := (hM1 x y h).1; omega
   cases hq : s0.hp.get x with
   | some bl =>
    have : ∀ (l : List (Nat × Nat)) (hp : Tr Blk), (∀ y, (x, y) ∉ l) → (joinHp (sameN s0.nx M) a.hp b.hp l hp).get x = hp.get x := by
     intro l
     induction l with
     | nil => intro hp _; rfl
     | cons p l ih =>
      intro hp hnl
      obtain ⟨x0, y0⟩ := p
      simp only [joinHp]
      rw [ih _ fun y hy => hnl y (List.mem_cons_of_mem _ hy), Tr.get_set_other _ _ fun e => hnl y0 (by subst e; simp)]
    rw [← hq]; exact this _ _ hnp
   | none =>
    cases hq2 : (joinSt s0 M a b).hp.get x with
    | none => rfl
    | some bl =>
     rcases hget x bl hq2 with ⟨y, h1, _⟩ | ⟨_, h2⟩
     ·exact absurd h1 (hnp y)
     ·rw [hq] at h2; cases h2
  ·rw [hl x hge]
   exact hnone x hge (by rw [ha.same x hx hn.1]; exact hl x hge)
 ·-- the second state, by the first one's names
  let τ' := renS s0.nx (maxN a.nx b.nx) M τ
  have hτlo : ∀ i, i < s0.nx → τ' i = τ i := fun i hi => by simp only [τ', renS]; rw [if_neg (by omega)]
  have hτhi : ∀ i, maxN a.nx b.nx ≤ i → τ' i = τ i := fun i hi => by simp only [τ', renS]; rw [if_neg (by omega)]
  have hτM : ∀ x y, (x, y) ∈ M → τ' x = τ y := fun x y h => by
   obtain ⟨k1, k2, _, k4⟩ := hM1 x y h
   simp only [τ', renS]; rw [if_pos ⟨k1, k2⟩, k4]
  have hdom : ∀ n, σ n ≠ none → τ' n = τ n := fun n hn => by
   rcases Nat.lt_or_ge n s0.nx with h | h
   ·exact hτlo n h
   ·rcases Nat.lt_or_ge n (maxN a.nx b.nx) with h' | h'
    ·exact absurd (hf n h h') hn
    ·exact hτhi n h'
  have hcomp : Compat (sameN s0.nx M) τ τ' := fun i j L hs hj => by
   unfold sameN at hs
   cases hq : Nat.blt i s0.nx with
   | true =>
    rw [hq] at hs
    have e := beq_iff.1 hs
    subst e
    rw [hτlo i (blt_iff.1 hq)]; exact hj
   | false =>
    rw [hq] at hs
    simp only [cond_false] at hs
    split at hs
    ·rename_i y hy
     have e := beq_iff.1 hs
     subst e
     rw [hτM i y (lookP_mem hy)]; exact hj
    ·cases hs
  -- where a block of the joint state stands in the second one
  have src : ∀ x bl, (joinSt s0 M a b).hp.get x = some bl → ∃ y b2, b.hp.get y = some b2 ∧ τ' x = τ y ∧ bl.wr = b2.wr ∧ (∀ z o, Ro τ z b2 o → Ro τ' z bl o) ∧ ((y = x ∧ x < s0.nx) ∨ (x, y) ∈ M) := fun x bl hx => by
   rcases hget x bl hx with ⟨y, h1, h2⟩ | ⟨h1, h2⟩
   ·obtain ⟨b1, b2, g1, g2, _, g4⟩ := joinB_spec h2
    obtain ⟨k1, k2⟩ := g4 τ τ' hcomp
    rcases List.mem_append.1 h1 with h | h
    ·obtain ⟨p1, p2⟩ := selfP_mem.1 h
     subst p2
     have hlt := (below_mem.1 p1).2
     exact ⟨y, b2, g2, hτlo y hlt, k1, k2, .inl ⟨rfl, hlt⟩⟩
    ·exact ⟨y, b2, g2, hτM x y h, k1, k2, .inr h⟩
   ·have hlt := hl.lt h2
    obtain ⟨k0, z0, o0, _, _, hro0, _⟩ := hr.blk x bl h2
    exact ⟨x, bl, (old x bl h1 h2).2, hτlo x hlt, rfl, fun z o hro => hro0.agree hdom hro, .inl ⟨rfl, hlt⟩⟩
  refine ⟨τ', ⟨fun x bl hx => ?_, fun i j bl cl k z z' hi hj hsi hsj => ?_, fun g hg => ?_⟩, ⟨fun i L hi => ?_, fun i L hi => ?_, Nat.le_trans h2.le hm.2, h2.os, h2.tape, h2.output, h2.size, h2.keep, fun i bl k z hb' hs' => ?_⟩, fun x hx => join_ri hcomp _ _ _ x hx⟩
  ·obtain ⟨y, b2, g1, g2, g3, g4, _⟩ := src x bl hx
   obtain ⟨k, z, o, p1, p2, p3, p4⟩ := h1.blk y b2 g1
   exact ⟨k, z, o, g2.trans p1, p2, g4 z o p3, fun e => p4 (by rw [← g3]; exact e)⟩
  ·obtain ⟨y, b2, g1, g2, _, _, g5⟩ := src i bl hi
   obtain ⟨y', b2', g1', g2', _, _, g5'⟩ := src j cl hj
   have e := h1.inj y y' b2 b2' k z z' g1 g1' (g2.symm.trans hsi) (g2'.symm.trans hsj)
   subst e
   rcases g5 with ⟨e1, l1⟩ | m1 <;> rcases g5' with ⟨e2, l2⟩ | m2
   ·rw [← e1, ← e2]
   ·have := (hM1 j y m2).2.2.1; omega
   ·have := (hM1 i y m1).2.2.1; omega
   ·exact hM2 i j y m1 m2
  ·obtain ⟨z, hz⟩ := hr.gl g hg
   exact ⟨z, by rw [hdom g (by rw [hz]; exact fun e => by cases e)]; exact h2.sub _ _ hz⟩
  ·rw [hdom i (by rw [hi]; exact fun e => by cases e)]; exact h2.sub _ _ hi
  ·rcases Nat.lt_or_ge i s0.nx with h | h
   ·rw [hτlo i h] at hi
    rcases h2.dom i L hi with h3 | ⟨h3, _⟩
    ·exact .inl h3
    ·omega
   ·rcases Nat.lt_or_ge i (maxN a.nx b.nx) with h' | h'
    ·exact .inr ⟨h, h'⟩
    ·rw [hτhi i h'] at hi
     rcases h2.dom i L hi with h3 | ⟨_, h3⟩
     ·exact .inl h3
     ·omega
  ·obtain ⟨y, b2, g1, g2, g3, _⟩ := src i bl hb'
   rcases h2.own y b2 k z g1 (g2.symm.trans hs') with ⟨j, c, z', p1, p2, p3⟩ | p1
   ·exact .inl ⟨j, c, z', p1, p2, fun e => p3 (by rw [← g3]; exact e)⟩
   ·exact .inr p1
theorem uniqR_spec {x : Option (AV × St)} {v : AV} {a : St} (h : uniqR x = some (v, a)) : ∃ a0, x = some (v, a0) ∧ a.hp = a0.hp ∧ a.nx = a0.nx ∧ (∀ s, Keeps s a0 → Keeps s a) ∧ (∀ s va va' b, Sees s va a0 va' b → Sees s va a va' b) ∧ ∀ s va b, Sees s va b v a0 → Sees s va b v a := by
 unfold uniqR at h
 split at h
 ·rename_i v0 a0
  simp only [Option.some.injEq, Prod.mk.injEq] at h
  obtain ⟨rfl, rfl⟩ := h
  exact ⟨a0, rfl, rfl, rfl, fun s hk => ⟨hk.low, hk.le, hk.lb, fun x hx => uniq_mem.2 (hk.wl x hx), fun x hx => hk.wlb x (uniq_mem.1 hx), fun x hx hn => hk.same x hx fun hm => hn (uniq_mem.2 hm)⟩, fun _ _ _ _ h => h, fun _ _ _ h => h⟩
 ·cases h
theorem joinAll_spec {f : R → Option (AV × St)} {s0 : St} (hl : Low s0.hp s0.nx) (hlb : s0.nx ≤ s0.lb) : ∀ (l : List R) (v : AV) (a : St), joinAll f s0 l = some (v, a) → (∀ r, r ∈ l → ∀ v a, f r = some (v, a) → Keeps s0 a) →
  Keeps s0 a ∧ ∀ r, r ∈ l → ∃ vr ar, f r = some (vr, ar) ∧ Sees s0 vr ar v a := by
 intro l
 induction l with
 | nil => intro v a h; simp [joinAll] at h
 | cons r l ih =>
  intro v a h hk
  simp only [joinAll] at h
  split at h
  ·rename_i v1 a1 h1
   obtain ⟨a10, h10, _, _, u1, u2, u3⟩ := uniqR_spec h1
   have hk1 := u1 _ (hk r (by simp) _ _ h10)
   split at h
   ·simp only [Option.some.injEq, Prod.mk.injEq] at h
    obtain ⟨rfl, rfl⟩ := h
    refine ⟨hk1, fun r' hr' => ?_⟩
    simp only [List.mem_singleton] at hr'; subst hr'
    exact ⟨_, _, h10, u3 _ _ _ (.refl _ _ _)⟩
   ·split at h
    ·rename_i v2 a2 h2
     obtain ⟨a0, h0, _, _, w1, w2, w3⟩ := uniqR_spec h
     unfold joinTwo at h0
     rcases cond_eq_some h0 with ⟨hM, h'⟩ | ⟨_, h'⟩
     ·simp only [Option.some.injEq, Prod.mk.injEq] at h'
      obtain ⟨rfl, rfl⟩ := h'
      obtain ⟨hk2, hall⟩ := ih v2 a2 h2 fun r' hr' => hk r' (by simp [hr'])
      obtain ⟨g1, g2, g3⟩ := joinSt_spec hl hlb hk1 hk2 hM v1 v2
      refine ⟨w1 _ g1, fun r' hr' => ?_⟩
      rcases List.mem_cons.1 hr' with rfl | hr'
      ·exact ⟨_, _, h10, w3 _ _ _ (Sees.trans (a := a10) (b := a1) (u3 _ _ _ (.refl _ _ _)) g2)⟩
      ·obtain ⟨vr, ar, k1, k2⟩ := hall r' hr'
       exact ⟨vr, ar, k1, w3 _ _ _ (k2.trans g3)⟩
     ·cases h'
    ·cases h
  ·cases h
end Go.Ex
