/-
  The abstract machine: which names there are, and which ones turn.
-/
import Derived.Test.YtkidamemnogojaaGreatDoorExStep2
set_option linter.unusedVariables false
set_option linter.unusedSimpArgs false
namespace Go.Ex

/-- No names from nx on. -/
def Low (hp : Tr Blk) (nx : Nat) : Prop := ∀ x, nx ≤ x → hp.get x = none

/-- What an operation turns has a name below the next one. -/
def Good (nx : Nat) (r : R) : Prop := nx ≤ r.nx ∧ ∀ p ∈ r.dl, p.1 < r.nx

theorem Low.lt {hp : Tr Blk} {nx id : Nat} {b : Blk} (h : Low hp nx) (hg : hp.get id = some b) : id < nx := by
  rcases Nat.lt_or_ge id nx with h1 | h1
  · exact h1
  · rw [h id h1] at hg; cases hg

section
variable {P : Program} {G : Nat} {hp : Tr Blk} {nx : Nat} {r : R}

theorem good_rv {v : AV} (h : rv nx v = some r) : Good nx r := by rw [rv_some h]; exact ⟨Nat.le_refl _, by simp⟩
theorem good_rvO {v : Option AV} (h : rvO nx v = some r) : Good nx r := by obtain ⟨x, _, rfl⟩ := rvO_some h; exact ⟨Nat.le_refl _, by simp⟩
theorem good_rnew {v : AV} {b : Blk} (h : rnew nx v b = some r) : Good nx r := by
  simp only [rnew, Option.some.injEq] at h; subst h
  exact ⟨Nat.le_succ _, by simp⟩
theorem good_rset {v : AV} {id : Nat} {b b' : Blk} (hl : Low hp nx) (hg : hp.get id = some b') (h : rset nx v id b = some r) : Good nx r := by
  simp only [rset, Option.some.injEq] at h; subst h
  exact ⟨Nat.le_refl _, by simpa using hl.lt hg⟩
theorem picks_good {it : AV} {isS : Bool} {l : List R} (hl : Low hp nx) (h : picks hp nx it isS = some l) : ∀ r, r ∈ l → Good nx r := by
  unfold picks at h
  split at h
  · split at h
    · rename_i id m since seen st hg
      split at h
      · rename_i wr es c hm
        rcases cond_eq_some h with ⟨_, h'⟩ | ⟨_, h'⟩ <;> clear h
        · simp only [Option.some.injEq] at h'; subst h'
          intro r hr
          generalize leftA seen es = L at hr
          induction L with
          | nil => simp [pickRs] at hr
          | cons e L ih =>
            simp only [pickRs, List.mem_cons] at hr
            rcases hr with rfl | hr
            · exact ⟨Nat.le_refl _, by simpa [pickR] using hl.lt hg⟩
            · exact ih hr
        · cases h'
      · cases h
    · cases h
  · cases h
theorem good_putB {v : AV} {id off : Nat} {vs : List AV} (hl : Low hp nx) (h : putB hp nx v id off vs = some r) : Good nx r := by
  unfold putB at h
  split at h
  · rename_i hg
    split at h
    · exact good_rset hl hg h
    · cases h
  · cases h

theorem good_slice {t : TypeId} {x : AV} {lo hi mx : Option AV} (h : doSlice P hp nx t x lo hi mx = some r) : Good nx r := by
  unfold doSlice at h
  repeat' split at h
  all_goals first
    | exact good_rv h
    | exact good_rvO h
    | cases h
    | (rcases cond_eq_some h with ⟨_, h'⟩ | ⟨_, h'⟩ <;> (try split at h') <;> first | exact good_rvO h' | cases h')

theorem good_appendTo {e : TypeId} {es n : Nat} {new : List AV} {s : AV} (hl : Low hp nx) (h : appendTo e hp nx es n new s = some r) : Good nx r := by
  cases s with
  | nils =>
    simp only [appendTo] at h
    rcases cond_eq_some h with ⟨_, h'⟩ | ⟨_, h'⟩
    · exact good_rv h'
    · exact good_rnew h'
  | sl id off len cap es' =>
    simp only [appendTo] at h
    rcases cond_eq_some h with ⟨_, h'⟩ | ⟨_, h'⟩ <;> clear h
    · split at h'
      · rename_i hg
        split at h'
        · rcases cond_eq_some h' with ⟨_, h⟩ | ⟨_, h⟩ <;> clear h'
          · rcases cond_eq_some h with ⟨_, h'⟩ | ⟨_, h'⟩ <;> clear h
            · exact good_rv h'
            · rcases cond_eq_some h' with ⟨_, h⟩ | ⟨_, h⟩ <;> clear h'
              · split at h
                · exact good_rset hl hg h
                · cases h
              · cases h
          · split at h
            · exact good_rnew h
            · cases h
        · rcases cond_eq_some h' with ⟨_, h⟩ | ⟨_, h⟩ <;> clear h'
          · rcases cond_eq_some h with ⟨_, h'⟩ | ⟨_, h'⟩ <;> clear h
            · exact good_rv h'
            · rcases cond_eq_some h' with ⟨_, h⟩ | ⟨_, h⟩ <;> clear h'
              · split at h
                · exact good_rset hl hg h
                · cases h
              · cases h
          · rcases cond_eq_some h with ⟨_, h'⟩ | ⟨_, h'⟩ <;> clear h
            · simp only [Option.some.injEq] at h'; subst h'
              refine ⟨Nat.le_succ _, fun p hp => ?_⟩
              have := hl.lt hg
              simp only [List.mem_cons, List.not_mem_nil, or_false] at hp
              rcases hp with rfl | rfl
              · show id < nx + 1; omega
              · show nx < nx + 1; omega
            · cases h'
      · cases h'
    · cases h'
  | _ => simp [appendTo] at h

theorem good_append {sT xT : TypeId} {x y : AV} (hl : Low hp nx) (h : doAppend P hp nx sT xT x y = some r) : Good nx r := by
  unfold doAppend at h
  split at h
  · split at h
    · cases h
    · rcases cond_eq_some h with ⟨_, h'⟩ | ⟨_, h'⟩ <;> clear h
      · cases h'
      · split at h'
        · rcases cond_eq_some h' with ⟨_, h⟩ | ⟨_, h⟩
          · exact good_appendTo hl h
          · cases h
        · cases h'
    · cases h
  · cases h

theorem good_copy {dT : TypeId} {d x : AV} (hl : Low hp nx) (h : doCopy P hp nx dT d x = some r) : Good nx r := by
  unfold doCopy at h
  split at h
  · split at h
    · dsimp only at h
      split at h
      · split at h
        · exact good_rv h
        · exact good_rv h
        · exact good_putB hl h
        · cases h
      · cases h
    · cases h
  · cases h

theorem good_clear {t : TypeId} {x : AV} (hl : Low hp nx) (h : doClear P hp nx t x = some r) : Good nx r := by
  unfold doClear at h
  split at h
  · split at h
    · exact good_rv h
    · split at h
      · rcases cond_eq_some h with ⟨_, h'⟩ | ⟨_, h'⟩
        · exact good_rv h'
        · exact good_putB hl h'
      · cases h
    · cases h
  · cases h

theorem good_mapSet {t : TypeId} {m k v : AV} (hl : Low hp nx) (h : doMapSet P hp nx t m k v = some r) : Good nx r := by
  unfold doMapSet at h
  split at h
  · split at h
    · rename_i hg
      rcases cond_eq_some h with ⟨_, h'⟩ | ⟨_, h'⟩ <;> clear h
      · split at h'
        · exact good_rset hl hg h'
        · exact good_rset hl hg h'
        · cases h'
      · cases h'
    · cases h
  · cases h

theorem good_mapEntry {t : TypeId} {m k : AV} (hl : Low hp nx) (h : doMapEntry P hp nx t m k = some r) : Good nx r := by
  unfold doMapEntry at h
  split at h
  · split at h
    · rename_i hg _
      rcases cond_eq_some h with ⟨_, h'⟩ | ⟨_, h'⟩ <;> clear h
      · split at h'
        · exact good_rset hl hg h'
        · exact good_rset hl hg h'
        · cases h'
      · cases h'
    · cases h
  · cases h

theorem good_entryStore {m k v : AV} (hl : Low hp nx) (h : doEntryStore hp nx m k v = some r) : Good nx r := by
  unfold doEntryStore at h
  split at h
  · split at h
    · rename_i hg
      split at h
      · exact good_rset hl hg h
      · cases h
    · cases h
  · cases h

theorem good_delete {t : TypeId} {m k : AV} (hl : Low hp nx) (h : doDelete P hp nx t m k = some r) : Good nx r := by
  unfold doDelete at h
  split at h
  · split at h
    · rename_i hg
      rcases cond_eq_some h with ⟨_, h'⟩ | ⟨_, h'⟩ <;> clear h
      · split at h'
        · exact good_rset hl hg h'
        · exact good_rset hl hg h'
        · cases h'
      · cases h'
    · cases h
  · cases h

theorem good_lookup {t : TypeId} {m k : AV} {ok : Bool} (h : doLookup P hp nx t m k ok = some r) : Good nx r := by
  unfold doLookup at h
  split at h
  · split at h
    · rcases cond_eq_some h with ⟨_, h'⟩ | ⟨_, h'⟩ <;> clear h
      · split at h'
        · exact good_rv h'
        · exact good_rv h'
        · cases h'
      · cases h'
    · cases h
  · cases h

theorem good_convert {src dst : TypeId} {x : AV} (h : doConvert P hp nx src dst x = some r) : Good nx r := by
  unfold doConvert at h
  repeat' split at h
  all_goals first
    | exact good_rv h
    | exact good_rnew h
    | (cases h; done)
    | (rcases cond_eq_some h with ⟨_, h'⟩ | ⟨_, h'⟩ <;> first | exact good_rv h' | cases h')

theorem good_len {t : TypeId} {x : AV} (h : doLen P hp nx t x = some r) : Good nx r := by
  unfold doLen at h
  repeat' split at h
  all_goals first
    | exact good_rv h
    | cases h

theorem good_lookupU {t : TypeId} {m k : AV} {ok : Bool} (h : doLookupU P hp nx t m k ok = some r) : Good nx r := by
  unfold doLookupU at h
  repeat' split at h
  all_goals first
    | (cases h; done)
    | (rcases cond_eq_some h with ⟨_, h'⟩ | ⟨_, h'⟩
       · repeat' split at h'
         all_goals first
           | exact good_rv h'
           | cases h'
       · cases h')
theorem good_mapSetU {t : TypeId} {m k v : AV} (hl : Low hp nx) (h : doMapSetU P hp nx t m k v = some r) : Good nx r := by
  unfold doMapSetU at h
  split at h
  · split at h
    · rename_i hg
      rcases cond_eq_some h with ⟨_, h'⟩ | ⟨_, h'⟩
      · split at h'
        · exact good_rset hl hg h'
        · exact good_rset hl hg h'
        · cases h'
      · cases h'
    · cases h
  · cases h
theorem good_deleteU {t : TypeId} {m k : AV} (hl : Low hp nx) (h : doDeleteU P hp nx t m k = some r) : Good nx r := by
  unfold doDeleteU at h
  split at h
  · split at h
    · rename_i hg
      rcases cond_eq_some h with ⟨_, h'⟩ | ⟨_, h'⟩
      · split at h'
        · exact good_rset hl hg h'
        · exact good_rset hl hg h'
        · cases h'
      · cases h'
    · cases h
  · cases h
theorem good_lenU {t : TypeId} {x : AV} (h : doLenU P hp nx t x = some r) : Good nx r := by
  unfold doLenU at h
  repeat' split at h
  all_goals first
    | exact good_rv h
    | cases h

theorem good_builtin {b : Builtin} {ts : List TypeId} {xs : List AV} (hl : Low hp nx) (h : doBuiltin P hp nx b ts xs = some r) : Good nx r := by
  unfold doBuiltin at h
  split at h
  · exact good_append hl h
  · rcases orE_some h with h | h
    · exact good_len h
    · exact good_lenU h
  · unfold doCap at h
    split at h
    · exact good_rv h
    · exact good_rv h
    · cases h
  · exact good_copy hl h
  · rcases orE_some h with h | h
    · exact good_delete hl h
    · exact good_deleteU hl h
  · exact good_clear hl h
  · split at h
    · exact good_rv h
    · cases h
  · split at h
    · exact good_rv h
    · cases h
  · split at h
    · exact good_rv h
    · cases h
  · split at h
    · exact good_rv h
    · cases h
  · unfold doData at h
    repeat' split at h
    all_goals first
      | exact good_rv h
      | cases h
      | (rcases cond_eq_some h with ⟨_, h'⟩ | ⟨_, h'⟩
         · exact good_rv h'
         · cases h')
  · unfold doUStr at h
    split at h
    · split at h
      · exact good_rv h
      · exact good_rv h
      · cases h
    · split at h
      · split at h
        · rename_i hg
          rcases cond_eq_some h with ⟨_, h'⟩ | ⟨_, h'⟩
          · split at h'
            · split at h'
              · simp only [Option.some.injEq] at h'; subst h'
                refine ⟨Nat.le_refl _, fun p hp => ?_⟩
                simp only [List.mem_singleton] at hp
                subst hp
                exact hl.lt hg
              · cases h'
            · cases h'
          · cases h'
        · cases h
      · cases h
    · cases h
  · cases h

theorem aop_good {tm : Tr AV} {o : Oper} (hl : Low hp nx) (h : aop P G tm hp nx o = some r) : Good nx r := by
  obtain ⟨dst, op, type, pos, after, guard⟩ := o
  cases op <;> simp only [aop, aopM] at h
  case move x => exact good_rv h
  case assign x => exact good_rv h
  case load t x => exact good_rvO h
  case store t x y =>
    unfold doStore at h
    split at h
    · rcases cond_eq_some h with ⟨_, h'⟩ | ⟨_, h'⟩
      · exact good_putB hl h'
      · cases h'
    · cases h
  case binOp op t x y _ =>
    rcases cond_eq_some h with ⟨_, h'⟩ | ⟨_, h'⟩
    · exact good_rvO h'
    · cases h'
  case fieldAddr s x f =>
    unfold doFieldAddr at h
    repeat' split at h
    all_goals first
      | exact good_rv h
      | cases h
  case indexAddr t x i =>
    unfold doIndexAddr at h
    repeat' split at h
    all_goals first
      | (cases h; done)
      | (rcases cond_eq_some h with ⟨_, h'⟩ | ⟨_, h'⟩ <;> first | exact good_rv h' | cases h')
  case nilCheck x =>
    unfold doNilCheck at h
    split at h <;> first
      | exact good_rv h
      | cases h
  case pick c x y =>
    unfold doPick at h
    split at h <;> first
      | exact good_rv h
      | cases h
  case unOp op t x => exact good_rvO h
  case alloc t =>
    unfold doAlloc at h
    split at h <;> first
      | exact good_rnew h
      | cases h
  case box t x =>
    unfold doBox at h
    split at h <;> first
      | exact good_rnew h
      | cases h
  case build t ps =>
    unfold doBuild at h
    split at h
    · rcases cond_eq_some h with ⟨_, h'⟩ | ⟨_, h'⟩
      · split at h'
        · exact good_rv h'
        · cases h'
      · cases h'
    · split at h
      · split at h
        · exact good_rv h
        · cases h
      · cases h
    · cases h
  case buildSlice t n ps =>
    unfold doBuildSlice at h
    split at h
    · split at h
      · rcases cond_eq_some h with ⟨_, h'⟩ | ⟨_, h'⟩
        · cases h'
        · split at h'
          · exact good_rnew h'
          · cases h'
      · cases h
    · cases h
  case convert s d x => exact good_convert h
  case makeInterface t x =>
    unfold doMakeIface at h
    split at h <;> first
      | exact good_rv h
      | cases h
  case makeFunc f x y =>
    unfold doMakeFunc at h
    split at h <;> first
      | exact good_rv h
      | cases h
  case makeMap t x =>
    unfold doMakeMap at h
    split at h <;> first
      | exact good_rnew h
      | cases h
  case makeSlice t l c =>
    unfold doMakeSlice at h
    split at h
    · split at h
      · rcases cond_eq_some h with ⟨_, h'⟩ | ⟨_, h'⟩
        · cases h'
        · exact good_rnew h'
      · cases h
    · cases h
  case slice t x lo hi mx => exact good_slice h
  case field s x f =>
    unfold doField at h
    split at h <;> first
      | exact good_rvO h
      | cases h
  case index t x i =>
    unfold doIndex at h
    repeat' split at h
    all_goals first
      | exact good_rv h
      | (cases h; done)
      | (rcases cond_eq_some h with ⟨_, h'⟩ | ⟨_, h'⟩ <;> first | exact good_rvO h' | cases h')
  case lookup t x i ok =>
    rcases orE_some h with h | h
    · exact good_lookup h
    · exact good_lookupU h
  case mapUpdate t m k v =>
    rcases orE_some h with h | h
    · exact good_mapSet hl h
    · exact good_mapSetU hl h
  case insert t m k v =>
    rcases orE_some h with h | h
    · exact good_mapSet hl h
    · exact good_mapSetU hl h
  case mapEntry t m k => exact good_mapEntry hl h
  case entryStore t m s v => exact good_entryStore hl h
  case range t x =>
    unfold doRange at h
    split at h
    · exact good_rnew h
    · exact good_rnew h
    · split at h <;> first
        | exact good_rnew h
        | cases h
    · cases h
  case entry it =>
    unfold doEntry at h
    repeat' split at h
    all_goals first
      | (cases h; done)
      | (rcases cond_eq_some h with ⟨_, h'⟩ | ⟨_, h'⟩ <;> first | exact good_rvO h' | cases h')
  case next it isS =>
    unfold doNext at h
    split at h
    · split at h
      · rename_i hg
        split at h
        · exact good_rv h
        · rcases cond_eq_some h with ⟨_, h'⟩ | ⟨_, h'⟩
          · exact good_rset hl hg h'
          · cases h'
      · cases h
    · split at h
      · exact good_rv h
      · split at h
        · exact good_rv h
        · rename_i hpk
          simp only [Option.some.injEq] at h; subst h
          exact picks_good hl hpk _ (by simp)
        · cases h
      · cases h
    · cases h
  case typeAssert x t as ok =>
    unfold doAssert at h
    split at h
    · cases h
    · rcases cond_eq_some h with ⟨_, h'⟩ | ⟨_, h'⟩
      · split at h'
        · exact good_rv h'
        · cases h'
      · cases h'
    · rcases cond_eq_some h with ⟨_, h'⟩ | ⟨_, h'⟩
      · exact good_rv h'
      · rcases cond_eq_some h' with ⟨_, h⟩ | ⟨_, h⟩
        · split at h
          · exact good_rv h
          · cases h
        · cases h
    · cases h
  case extract x i =>
    unfold doExtract at h
    split at h
    · exact good_rvO h
    · cases h
  case call c =>
    split at h
    · exact good_builtin hl h
    · cases h
  all_goals cases h

theorem ins_good {id off len es i idv offv lenv esv : Nat} (hl : Low hp nx) (h : insA hp nx id off len es i idv offv lenv esv = some r) : Good nx r := by
  unfold insA at h
  split at h
  · rename_i hg _
    rcases cond_eq_some h with ⟨_, h'⟩ | ⟨_, h'⟩
    · split at h'
      · split at h'
        · simp only [Option.some.injEq] at h'; subst h'
          refine ⟨Nat.le_succ _, fun p hp => ?_⟩
          have := hl.lt hg
          simp only [List.mem_cons, List.not_mem_nil, or_false] at hp
          rcases hp with rfl | rfl
          · show id < nx + 1; omega
          · show nx < nx + 1; omega
        · cases h'
      · cases h'
    · cases h'
  · cases h
theorem ext_good {k : ExtK} {args : List AV} (hl : Low hp nx) (h : extA G hp nx k args = some r) : Good nx r := by
  unfold extA at h
  split at h
  · rcases cond_eq_some h with ⟨_, h'⟩ | ⟨_, h'⟩
    · exact good_rv h'
    · cases h'
  · rcases cond_eq_some h with ⟨_, h'⟩ | ⟨_, h'⟩
    · split at h' <;> exact good_rv h'
    · cases h'
  · exact good_rv h
  · exact good_rv h
  · exact good_rv h
  · rcases cond_eq_some h with ⟨_, h'⟩ | ⟨_, h'⟩
    · exact good_rnew h'
    · cases h'
  · exact ins_good hl h
  · rcases cond_eq_some h with ⟨_, h'⟩ | ⟨_, h'⟩
    · exact good_rv h'
    · cases h'
  · rcases cond_eq_some h with ⟨_, h'⟩ | ⟨_, h'⟩
    · exact good_rv h'
    · cases h'
  · cases h
theorem extO_good {X : FuncId → Option ExtK} {g : FuncId} {args : List AV} (hl : Low hp nx) (h : extO G X hp nx g args = some r) : Good nx r := by
  unfold extO at h
  split at h
  · exact ext_good hl h
  · cases h
end
end Go.Ex
