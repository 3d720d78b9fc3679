/-
  The abstract machine: append, copy, clear.
-/
import Derived.Test.YtkidamemnogojaaGreatDoorExOps5
set_option linter.unusedVariables false
set_option linter.unusedSimpArgs false
namespace Go.Ex

section
variable {P : Program} {B G : Nat} {σ : Sg} {hp : Tr Blk} {nx : Nat} {w : World}

theorem run_loadCells0 (a : Addr) : (loadCells a 0).run P w = .ok #[] w := by simp [loadCells, loadCellsFrom]

theorem lenA_ok {x : AV} {n : Nat} {v : Value} (h : lenA x = some n) (hx : Rv σ x v) : (Builtin.lenOf v).run P w = .ok n w := by
  unfold lenA at h
  split at h
  · rw [hx.inv_nils]; simp only [Option.some.injEq] at h; subst h; rfl
  · obtain ⟨a, c, rfl⟩ := hx.inv_sle; simp only [Option.some.injEq] at h; subst h; rfl
  · obtain ⟨b, z, c, _, rfl⟩ := hx.inv_sl; simp only [Option.some.injEq] at h; subst h; rfl
  · obtain ⟨s, rfl, rfl⟩ := hx.inv_str; simp only [Option.some.injEq] at h; subst h; rw [ofBA_length]; rfl
  · cases h

theorem strCells (s : ByteArray) (n : Nat) : RL σ (((ofBA s).take n).map fun b => .int .u8 (.ofNat b)) ((s.extract 0 n).data.map fun b => Value.int .u8 b.toNat).toList ∧ ∀ u, u ∈ ((s.extract 0 n).data.map fun b => Value.int .u8 b.toNat).toList → oneC u = true := by
  have e : ((s.extract 0 n).data.map fun b => Value.int .u8 b.toNat).toList = (s.data.toList.take n).map fun b => Value.int .u8 b.toNat := by
    simp [List.extract_eq_take_drop]
  rw [e]
  refine ⟨⟨by simp [ofBA], fun i x v hx hv => ?_⟩, fun u hu => ?_⟩
  · simp only [ofBA, ← List.map_take, List.map_map, List.getElem?_map, Option.map_eq_some_iff] at hx hv
    obtain ⟨b, hb, rfl⟩ := hx
    obtain ⟨b', hb', rfl⟩ := hv
    rw [hb] at hb'; cases hb'
    exact .int _ _
  · simp only [List.mem_map] at hu
    obtain ⟨b, _, rfl⟩ := hu; rfl

/-- The first elements of what is appended or copied. -/
theorem firstA_ok (hr : Rel B G σ hp w) {es n : Nat} {x : AV} {l : List AV} {v : Value} (h : firstA hp es n x = some l) (hx : Rv σ x v) :
    ∃ cs : Array Value, RL σ l cs.toList ∧ (∀ u, u ∈ cs.toList → oneC u = true) ∧ ∀ m, (Builtin.firstCells es n v).run P { w with drawn := m } = .ok cs { w with drawn := m } := by
  unfold firstA at h
  split at h
  · rw [hx.inv_nils]; simp only [Option.some.injEq] at h; subst h
    exact ⟨#[], .nil, by simp, fun m => rfl⟩
  · rcases cond_eq_some h with ⟨hb, h⟩ | ⟨_, h⟩
    · obtain ⟨a, c, rfl⟩ := hx.inv_sle; simp only [Option.some.injEq] at h; subst h
      refine ⟨#[], .nil, by simp, fun m => ?_⟩
      rw [beq_iff.1 hb]
      simp only [Builtin.firstCells, Nat.zero_mul]
      exact run_loadCells0 a
    · cases h
  · rename_i id off _ _ _
    split at h
    · rename_i wr o tt cl hg
      obtain ⟨b, z, c, hs, rfl⟩ := hx.inv_sl
      obtain ⟨k, z', cc, t, fr, hs', hk, hz, ho, hl, hf, hc, hB⟩ := hr.cells hg
      rw [hs] at hs'; simp at hs'; obtain ⟨rfl, rfl⟩ := hs'
      obtain ⟨g1, g2, g3⟩ := hc.sub h hl
      refine ⟨((cc.toList.drop off).take (n * es)).toArray, by simpa using g1, by simpa using g2, fun m => ?_⟩
      simp only [Builtin.firstCells]
      exact run_loadCells (w := { w with drawn := m }) hk g3
    · cases h
  · rcases cond_eq_some h with ⟨hb, h⟩ | ⟨_, h⟩
    · obtain ⟨s, rfl, rfl⟩ := hx.inv_str; simp only [Option.some.injEq] at h; subst h
      obtain ⟨g1, g2⟩ := strCells (σ := σ) s n
      exact ⟨_, g1, g2, fun m => rfl⟩
    · cases h
  · cases h

theorem firstA_len {es n : Nat} {x : AV} {l : List AV} (h : firstA hp es n x = some l) : l.length ≤ n * es := by
  unfold firstA at h
  split at h
  · simp only [Option.some.injEq] at h; subst h; simp
  · rcases cond_eq_some h with ⟨_, h⟩ | ⟨_, h⟩
    · simp only [Option.some.injEq] at h; subst h; simp
    · cases h
  · split at h
    · rw [(sub_spec h).1]; omega
    · cases h
  · rcases cond_eq_some h with ⟨hb, h⟩ | ⟨_, h⟩
    · rw [beq_iff.1 hb]; simp only [Option.some.injEq] at h; subst h; simp; omega
    · cases h
  · cases h

theorem bytesB_spec {t : TypeId} {b : Nat} (h : bytesB P t = some b) : ∃ i, P.info? t = some i ∧ i.bytes = b := by
  unfold bytesB at h
  split at h
  · rename_i i hi; exact ⟨i, hi, by simpa using h⟩
  · cases h
theorem sizeB_spec {t : TypeId} {b : Nat} (h : sizeB P t = some b) : ∃ i, P.info? t = some i ∧ i.size = b := by
  unfold sizeB at h
  split at h
  · rename_i i hi; exact ⟨i, hi, by simpa using h⟩
  · cases h

theorem sameT_l {t : Option TypeId} {e a : TypeId} (h : sameT t e = some a) : t = some a := by
  unfold sameT at h
  split at h
  · rcases cond_eq_some h with ⟨_, h'⟩ | ⟨_, h'⟩
    · exact h'
    · cases h'
  · cases h
theorem sameT_r {t : Option TypeId} {e a : TypeId} (h : sameT t e = some a) : e = a := by
  unfold sameT at h
  split at h
  · rcases cond_eq_some h with ⟨hq, h'⟩ | ⟨_, h'⟩
    · rw [← beq_iff.1 hq]; simpa using h'
    · cases h'
  · cases h
theorem noInt (d : TypeDesc) : (∀ k, d ≠ .int k) → (match d with | TypeDesc.int _ => true | _ => false) = false := by
  intro hd
  split
  · exact absurd rfl (hd _)
  · rfl

theorem run_append_room {sT xT ty e : TypeId} {d : TypeDesc} {es n sLen sCap : Nat} {base : Option Addr} {v : Value} {news : Array Value} (hsT : P.underlying sT = some (.slice e)) (hxT : P.underlying xT = some d) (hd : ∀ k, d ≠ .int k)
    (hes : sizeB P e = some es) (hlen : (Builtin.lenOf v).run P w = .ok n w) (hle : sLen + n ≤ sCap) (hf : (Builtin.firstCells es n v).run P w = .ok news w) :
    (Builtin.append_ #[sT, xT] ty #[.slice base sLen sCap, v]).run P w = (match base with
      | some a => ((storeCells (a.add (sLen * es)) news.toList).run P w).andThen fun _ w' => .ok (.slice base (sLen + n) sCap) w'
      | none => .ok (.slice base (sLen + n) sCap) w) := by
  have hd := noInt d hd
  cases base with
  | none => simp [Builtin.append_, run_und hsT, run_und hxT, run_size hes, hd, hlen, hle, hf]
  | some a => simp [Builtin.append_, run_und hsT, run_und hxT, run_size hes, hd, hlen, hle, hf]

theorem run_append_new {sT xT ty e : TypeId} {d : TypeDesc} {es n sLen sCap : Nat} {base : Option Addr} {v zv : Value} {olds news : Array Value} {i : TypeInfo} (hsT : P.underlying sT = some (.slice e)) (hxT : P.underlying xT = some d) (hd : ∀ k, d ≠ .int k)
    (hi : P.info? e = some i) (hes : i.size = es) (hz : i.zero = some zv) (hlen : (Builtin.lenOf v).run P w = .ok n w) (hgt : sCap < sLen + n) (hb : i.bytes ≤ 65536) (hn : sLen + n ≤ 1048576)
    (ho : ∀ m, (Builtin.firstCells es sLen (.slice base sLen sCap)).run P { w with drawn := m } = .ok olds { w with drawn := m })
    (hf : ∀ m, (Builtin.firstCells es n v).run P { w with drawn := m } = .ok news { w with drawn := m }) :
    ∃ c, sLen + n ≤ c ∧ (Builtin.append_ #[sT, xT] ty #[.slice base sLen sCap, v]).run P w =
      .ok (.slice (some ⟨w.heap.size, 0, none⟩) (sLen + n) c) { w with drawn := w.drawn + 1, heap := w.heap.push (.cells (olds ++ news ++ Builtin.zeroCells zv.cells (c - (sLen + n))) e) } := by
  refine ⟨(Question.appendCap (sLen + n) sCap e).cut (w.tape w.drawn (.appendCap (sLen + n) sCap e)), by simp [Question.cut], ?_⟩
  have h1 : ¬ (sLen + n ≤ sCap) := by omega
  have h2 : ¬ (9223372036854775807 < ((sLen : Int) + (n : Int))) := by omega
  have h3 : ¬ (281474976710656 < Builtin.nextslicecap (sLen + n) sCap * i.bytes) := by
    have := growslice_fits (need := sLen + n) (old := sCap) (bytes := i.bytes) hgt (Nat.le_trans (Nat.mul_le_mul hn hb) (by decide))
    omega
  subst hes
  have hd := noInt d hd
  have ho' : (Builtin.firstCells i.size sLen (.slice base sLen sCap)).run P w.drew = .ok olds w.drew := ho _
  have hf' : (Builtin.firstCells i.size n v).run P w.drew = .ok news w.drew := hf _
  simp [Builtin.append_, run_und hsT, run_und hxT, run_info hi, sizeOf, zeroValue, hz, hd, hlen, h1, h2, h3, hf', ho', Question.forced, newRow]
  rfl

/-- A grown row: what was there, what is new, zeros. -/
theorem grown_ok {tt : Option TypeId} (hr : Rel B G σ hp w) (hB : B ≤ w.heap.size) (hf : σ nx = none) {s : Sem Value} {len n es c : Nat} {olds news : Array Value} {z : AV} {zv : Value} {e : TypeId} {lo ln : List AV} (hc : len + n ≤ c) (hes : z.cells.length = es) (h0 : es ≠ 0)
    (htt : ∀ a, tt = some a → e = a)
    (hrun : s.run P w = .ok (.slice (some ⟨w.heap.size, 0, none⟩) (len + n) c) { w with drawn := w.drawn + 1, heap := w.heap.push (.cells (olds ++ news ++ Builtin.zeroCells zv.cells (c - (len + n))) e) })
    (hz : ofVal zv = some z) (ho : RL σ lo olds.toList) (ho1 : ∀ u, u ∈ olds.toList → oneC u = true) (hlo : lo.length = len * es) (hn : RL σ ln news.toList) (hn1 : ∀ u, u ∈ news.toList → oneC u = true) (hln : ln.length = n * es) :
    OkV P B G σ hp nx w s ⟨.sl nx 0 (len + n) none es, [(nx, some (.cells true true tt (lo ++ ln)))], nx + 1⟩ := by
  obtain ⟨g1, g2⟩ := ofVal_cells (σ := σ) hz
  have hzs : zv.cells.size = es := by rw [← hes]; simpa using g1.1.symm
  obtain ⟨k1, k2⟩ := zeros_ok g1 g2 (by omega) (c - (len + n)) ((c - (len + n)) * zv.cells.size) (by rw [hes, hzs])
  have e1 : olds.size = len * es := by rw [← hlo]; simpa using ho.1.symm
  have e2 : news.size = n * es := by rw [← hln]; simpa using hn.1.symm
  have hsz : (olds ++ news ++ Builtin.zeroCells zv.cells (c - (len + n))).size = c * es := by
    simp only [Array.size_append, e1, e2, Builtin.zeroCells, Array.size_map, Array.size_range, hzs]
    rw [← Nat.add_mul, ← Nat.add_mul]; congr 1; omega
  have hall : RL σ (lo ++ ln) (olds ++ news).toList := by rw [Array.toList_append]; exact ho.append hn
  refine OkV.newCells hr hB hf (c := olds ++ news ++ Builtin.zeroCells zv.cells (c - (len + n))) (t := e) (fr := (0, 0)) htt hrun rfl rfl rfl rfl ⟨?_, ?_⟩ (fun h => by cases h) ?_ (fun _ _ h => Nat.not_lt_zero _ h.2) ?_
  · intro i x hx
    obtain ⟨v, hv, hxv⟩ := hall.get hx
    refine ⟨v, ?_, hxv⟩
    rw [Array.getElem?_append_left]
    · rw [← Array.getElem?_toList]; exact hv
    · have := (List.getElem?_eq_some_iff.1 hv).1; simpa using this
  · intro i v hv
    have hm := Array.mem_of_getElem? hv
    simp only [Array.mem_append] at hm
    rcases hm with (hm | hm) | hm
    · exact ho1 v (by simpa using hm)
    · exact hn1 v (by simpa using hm)
    · exact k2 v (by simpa [Builtin.zeroCells] using hm)
  · rw [hsz, List.length_append, hlo, hln, ← Nat.add_mul]; exact Nat.mul_le_mul_right _ hc
  · rw [hsz]
    exact .slo _ _ _ c _ _ _ (Sg.put_same _ _ _) (by omega)

theorem appendTo_ok (hr : Rel B G σ hp w) (hB : B ≤ w.heap.size) {sT xT ty e : TypeId} {d : TypeDesc} {s : AV} {vs vx zv : Value} {z : AV} {es n m : Nat} {new : List AV} {news : Array Value} {i : TypeInfo} {r : R} (hf : Fresh σ nx r.nx) (h : appendTo e hp nx es n new s = some r) (hs : Rv σ s vs)
    (hsT : P.underlying sT = some (.slice e)) (hxT : P.underlying xT = some d) (hd : ∀ k, d ≠ .int k) (hes : sizeB P e = some es) (hi : P.info? e = some i) (hisz : i.size = es) (hz1 : i.zero = some zv) (hz2 : ofVal zv = some z) (hzl : z.cells.length = es) (hs0 : es ≠ 0)
    (hlen : (Builtin.lenOf vx).run P w = .ok n w) (hm : lenA s = some m) (hbig : m + n ≤ 1048576) (hib : i.bytes ≤ 65536) (hln : new.length = n * es) (n1 : RL σ new news.toList) (n2 : ∀ u, u ∈ news.toList → oneC u = true)
    (n3 : ∀ m, (Builtin.firstCells es n vx).run P { w with drawn := m } = .ok news { w with drawn := m }) :
    OkV P B G σ hp nx w (Builtin.append_ #[sT, xT] ty #[vs, vx]) r := by
  have hfn : Fresh σ nx (nx + 1) → σ nx = none := fun hf => hf nx (Nat.le_refl _) (Nat.lt_succ_self _)
  cases s with
  | nils =>
    rw [hs.inv_nils]
    simp only [appendTo] at h
    rcases cond_eq_some h with ⟨hq, h'⟩ | ⟨hq, h'⟩ <;> clear h
    · refine .rv hr h' ⟨.slice none 0 0, ?_, .nils⟩
      rw [run_append_room hsT hxT hd hes hlen (by rw [beq_iff.1 hq]; omega) (n3 w.drawn)]
      rw [beq_iff.1 hq]
    · have hn0 := beq_iff_f.1 hq
      simp only [rnew, Option.some.injEq] at h'; subst h'
      obtain ⟨c, hc, hrun⟩ := run_append_new (P := P) (w := w) (ty := ty) (base := none) (sLen := 0) (sCap := 0) (olds := #[]) hsT hxT hd hi hisz hz1 hlen (by omega) hib (by omega) (fun m => rfl) n3
      have := grown_ok (tt := some e) hr hB (hfn hf) (lo := []) (ln := new) (len := 0) hc hzl hs0 (fun a h => by cases h; rfl) hrun hz2 .nil (by simp) (by simp) n1 n2 hln
      simpa using this
  | sl id off len cap es' =>
    simp only [lenA, Option.some.injEq] at hm; subst hm
    simp only [appendTo] at h
    rcases cond_eq_some h with ⟨he, h'⟩ | ⟨_, h'⟩
    · clear h
      have he := beq_iff.1 he; subst he
      split at h'
      · rename_i wr o tt l hg
        cases cap with
        | some c =>
          obtain ⟨b, z', hσ, rfl⟩ := hs.inv_slc
          simp only at h'
          rcases cond_eq_some h' with ⟨hle, h⟩ | ⟨hle, h⟩ <;> clear h'
          · have hle := ble_iff.1 hle
            have hrun := run_append_room (ty := ty) (base := some ⟨b, off, none⟩) (sLen := len) (sCap := c) hsT hxT hd hes hlen hle (n3 w.drawn)
            simp only [addr_add] at hrun
            rcases cond_eq_some h with ⟨hq, h'⟩ | ⟨_, h'⟩ <;> clear h
            · have hn0 := beq_iff.1 hq; subst hn0
              refine .rv hr h' ⟨.slice (some ⟨b, off, none⟩) len c, ?_, .slc _ _ _ _ _ _ _ hσ⟩
              have hnil : news.toList = [] := List.eq_nil_of_length_eq_zero (by rw [← n1.1, hln]; omega)
              rw [hrun, hnil]; simp [storeCells]
            · rcases cond_eq_some h' with ⟨hw, h⟩ | ⟨_, h⟩ <;> clear h'
              · have hp1 : putB hp nx (.sl id off (len + n) (some c) es) id (off + len * es) new = some r := by
                  subst hw; simp only [putB, hg]; exact h
                obtain ⟨w', r1, r2, r3, r4⟩ := put_ok (P := P) hr hp1 hσ n1 n2
                refine ⟨σ, w', .slice (some ⟨b, off, none⟩) (len + n) c, ?_, by rw [r2]; exact .slc _ _ _ _ _ _ _ hσ, r3, r4⟩
                rw [hrun, r1]; rfl
              · cases h
          · have hgt := ble_iff_f.1 hle
            split at h
            · rename_i old hold
              simp only [rnew, Option.some.injEq] at h; subst h
              have hfo : firstA hp es len (.sl id off len (some c) es) = some old := by simp only [firstA, hg]; exact hold
              obtain ⟨olds, o1, o2, o3⟩ := firstA_ok (P := P) hr hfo (.slc _ _ _ _ _ _ _ hσ)
              obtain ⟨c', hc', hrun⟩ := run_append_new (P := P) (w := w) (ty := ty) (base := some ⟨b, off, none⟩) (sLen := len) (sCap := c) (olds := olds) hsT hxT hd hi hisz hz1 hlen hgt hib (by omega) o3 n3
              exact grown_ok (tt := some e) hr hB (hfn hf) hc' hzl hs0 (fun a h => by cases h; rfl) hrun hz2 o1 o2 (sub_spec hold).1 n1 n2 hln
            · cases h
        | none =>
          obtain ⟨b, z', c, hσ, hcz, rfl⟩ := hs.inv_slo
          obtain ⟨k, z2, cc, t, fr, hσ2, hk, hzz, ho, hll, hfz, hcc, hBk⟩ := hr.cells hg
          rw [hσ] at hσ2; simp at hσ2; obtain ⟨rfl, rfl⟩ := hσ2
          have hrun := fun hle => run_append_room (P := P) (w := w) (ty := ty) (base := some ⟨b, off, none⟩) (sLen := len) (sCap := c) hsT hxT hd hes hlen hle (n3 w.drawn)
          simp only [addr_add] at hrun
          simp only at h'
          rcases cond_eq_some h' with ⟨hq, h⟩ | ⟨_, h⟩ <;> clear h'
          · have hroom := ble_iff.1 hq
            have hle : len + n ≤ c := Nat.le_of_mul_le_mul_right (show (len + n) * es ≤ c * es by omega) (by omega)
            replace hrun := hrun hle
            rcases cond_eq_some h with ⟨hq, h'⟩ | ⟨_, h'⟩ <;> clear h
            · have hn0 := beq_iff.1 hq; subst hn0
              refine .rv hr h' ⟨.slice (some ⟨b, off, none⟩) len c, ?_, .slo _ _ _ _ _ _ _ hσ hcz⟩
              have hnil : news.toList = [] := List.eq_nil_of_length_eq_zero (by rw [← n1.1, hln]; omega)
              rw [hrun, hnil]; simp [storeCells]
            · rcases cond_eq_some h' with ⟨hw, h⟩ | ⟨_, h⟩ <;> clear h'
              · have hp1 : putB hp nx (.sl id off (len + n) none es) id (off + len * es) new = some r := by
                  subst hw; simp only [putB, hg]; exact h
                obtain ⟨w', r1, r2, r3, r4⟩ := put_ok (P := P) hr hp1 hσ n1 n2
                refine ⟨σ, w', .slice (some ⟨b, off, none⟩) (len + n) c, ?_, by rw [r2]; exact .slo _ _ _ _ _ _ _ hσ hcz, r3, r4⟩
                rw [hrun, r1]; rfl
              · cases h
          · rcases cond_eq_some h with ⟨hq, h'⟩ | ⟨_, h'⟩ <;> clear h
            · simp only [Bool.and_eq_true] at hq
              have ho0 := beq_iff.1 hq.1.1.1; subst ho0
              have hwr := hq.1.1.2; subst hwr
              have hll2 := beq_iff.1 hq.2
              simp only [Option.some.injEq] at h'; subst h'
              have hσn := hfn hf
              by_cases hle : len + n ≤ c
              · replace hrun := hrun hle
                have hmul : (len + n) * es ≤ c * es := Nat.mul_le_mul_right _ hle
                rw [Nat.add_mul] at hmul
                have hnl : news.toList.length = n * es := by rw [← n1.1, hln]
                obtain ⟨w', c', r1, r2, r3, r4, r5, r6, r7, r8, r9⟩ := run_storeCells (P := P) news.toList w cc (0 + len * es) 0 hk (.inr (by rw [hnl]; omega)) (fun j hj => hfz j (.inl hj)) n2
                have hsub : Sub σ (σ.put nx (b, z')) := Sub.put _ hσn
                obtain ⟨g1, g2⟩ := hr.rename (b' := .cells true true (sameT tt e) (l ++ new)) hg rfl hσ hσn r2 (by
                  refine .cells true true (sameT tt e) (l ++ new) c' t fr (fun a ha => hr.cellsT hg hσ hk a (sameT_l ha)) (by omega) (fun e => by cases e) ?_ (by rw [r3]; exact fun i hi => hfz i (.inl (hi.resolve_right (by simp)))) ?_ ?_
                  · rw [List.length_append, hln, r3]; omega
                  · intro i u hu
                    rw [r4 i] at hu
                    split at hu
                    · exact n2 u (List.mem_of_getElem? hu)
                    · exact hcc.2 i u hu
                  · intro i x hx
                    rw [r4 i]
                    by_cases hi : i < l.length
                    · rw [List.getElem?_append_left hi] at hx
                      rw [if_neg (by omega)]
                      obtain ⟨u, hu, hxu⟩ := hcc.1 i x hx
                      exact ⟨u, hu, hxu.mono hsub⟩
                    · rw [List.getElem?_append_right (by omega)] at hx
                      obtain ⟨u, hu, hxu⟩ := n1.get hx
                      have := (List.getElem?_eq_some_iff.1 hu).1
                      rw [if_pos (by omega)]
                      refine ⟨u, ?_, hxu.mono hsub⟩
                      rw [show i - (0 + len * es + 0) = i - l.length from by omega]; exact hu) r6 r5 r7 r8 r9
                refine ⟨_, w', .slice (some ⟨b, 0, none⟩) (len + n) c, ?_, .slo _ _ _ _ _ _ _ (Sg.put_same _ _ _) hcz, g1, g2⟩
                rw [hrun, r1]; rfl
              · obtain ⟨d1, d2⟩ := hr.drop id nx
                have hfo : firstA hp es len (.sl id 0 len none es) = some l := by
                  simp only [firstA, hg]
                  have : l.length = len * es := hll2.symm
                  have key : ∀ (m : List AV), takeL m.length m = some m := by
                    intro m; induction m with
                    | nil => rfl
                    | cons x m ih => simp [takeL_z, takeL_n, takeL_c, ih]
                  simp only [sub, dropL_z, dropL_n, dropL_c, hll2]; exact key l
                obtain ⟨olds, o1, o2, o3⟩ := firstA_ok (P := P) hr hfo (.slo _ _ _ c _ _ _ hσ hcz)
                obtain ⟨c', hc', hrun2⟩ := run_append_new (P := P) (w := w) (ty := ty) (base := some ⟨b, 0, none⟩) (sLen := len) (sCap := c) (olds := olds) hsT hxT hd hi hisz hz1 hlen (by omega) hib (by omega) o3 n3
                obtain ⟨σ', w', v, q1, q2, q3, q4⟩ := grown_ok (tt := sameT tt e) d1 hB hσn hc' hzl hs0 (fun a h => sameT_r h) hrun2 hz2 o1 o2 hll2.symm n1 n2 hln
                exact ⟨σ', w', v, q1, q2, q3, d2.trans q4⟩
            · cases h'
      · cases h'
    · cases h'
  | _ => simp [appendTo] at h

theorem append_ok (hr : Rel B G σ hp w) (hB : B ≤ w.heap.size) {sT xT ty : TypeId} {s x : AV} {vs vx : Value} {r : R} (hf : Fresh σ nx r.nx) (h : doAppend P hp nx sT xT s x = some r) (hs : Rv σ s vs) (hx : Rv σ x vx) :
    OkV P B G σ hp nx w (Builtin.append_ #[sT, xT] ty #[vs, vx]) r := by
  unfold doAppend at h
  split at h
  · rename_i e d hsT hxT
    split at h
    · cases h
    · rename_i es bytes z n m hd hes hby hz hn hm
      rcases cond_eq_some h with ⟨_, h⟩ | ⟨hb, h⟩
      · cases h
      · simp only [Bool.or_eq_false_iff, Bool.not_eq_false'] at hb
        have hs0 := beq_iff_f.1 hb.1.1.1
        have hzl := beq_iff.1 hb.1.1.2
        have hbyt := blt_iff_f.1 hb.1.2
        have hbig := blt_iff_f.1 hb.2
        obtain ⟨i, zv, hi, hz1, hz2⟩ := zeroA_spec hz
        have hib : i.bytes = bytes := by obtain ⟨i', h1, h2⟩ := bytesB_spec hby; rw [hi] at h1; cases h1; exact h2
        have hisz : i.size = es := by obtain ⟨i', h1, h2⟩ := sizeB_spec hes; rw [hi] at h1; cases h1; exact h2
        split at h
        · rename_i new hnew
          rcases cond_eq_some h with ⟨hl, h⟩ | ⟨_, h⟩
          · obtain ⟨news, n1, n2, n3⟩ := firstA_ok (P := P) hr hnew hx
            exact appendTo_ok hr hB hf h hs hsT hxT hd hes hi hisz hz1 hz2 hzl hs0 (lenA_ok hn hx) hm hbig (by omega) (beq_iff.1 hl) n1 n2 n3
          · cases h
        · cases h
    · cases h
  · cases h

theorem copy_ok (hr : Rel B G σ hp w) {dT u ty : TypeId} {d s : AV} {vd vs : Value} {r : R} (h : doCopy P hp nx dT d s = some r) (hd : Rv σ d vd) (hs : Rv σ s vs) :
    OkV P B G σ hp nx w (Builtin.copy_ #[dT, u] ty #[vd, vs]) r := by
  unfold doCopy at h
  split at h
  · rename_i e hu
    split at h
    · rename_i es n len hes hn hlen
      have hln := lenA_ok (P := P) (w := w) hn hs
      have hm : (bif Nat.ble n len then n else len) = Nat.min n len := by
        cases hb : Nat.ble n len
        · have := ble_iff_f.1 hb; simp only [cond_false]; exact (Nat.min_eq_right (by omega)).symm
        · have := ble_iff.1 hb; simp only [cond_true]; exact (Nat.min_eq_left (by omega)).symm
      simp only [hm] at h
      split at h
      · rename_i new hnew
        obtain ⟨cs, c1, c2, c3⟩ := firstA_ok (P := P) hr hnew hs
        replace c3 := c3 w.drawn
        have c3 : (Builtin.firstCells es (Nat.min n len) vs).run P w = .ok cs w := c3
        split at h
        · refine .rv hr h ⟨_, ?_, .int _ 0⟩
          simp only [lenA, Option.some.injEq] at hlen; subst hlen
          rw [hd.inv_nils]
          simp only [Builtin.copy_, Sem.run_bind, run_und hu, Result.andThen_ok, hln, run_size hes, List.getElem?_toArray]
          simp only [Nat.min_zero] at c3
          simp [run_und hu, hln, run_size hes, c3, goInt]
        · refine .rv hr h ⟨_, ?_, .int _ 0⟩
          simp only [lenA, Option.some.injEq] at hlen; subst hlen
          obtain ⟨a, c, rfl⟩ := hd.inv_sle
          have hnil : cs.toList = [] := List.eq_nil_of_length_eq_zero (by have := firstA_len hnew; rw [← c1.1]; simp only [Nat.min_zero] at this; omega)
          simp only [Nat.min_zero] at c3
          simp [Builtin.copy_, run_und hu, hln, run_size hes, c3, goInt, hnil, storeCells]
        · rename_i id off _ _ _ _
          simp only [lenA, Option.some.injEq] at hlen; subst hlen
          obtain ⟨b, z, c, hσ, rfl⟩ := hd.inv_sl
          obtain ⟨w', r1, r2, r3, r4⟩ := put_ok (P := P) hr h hσ c1 c2
          refine ⟨σ, w', .int .i64 (.ofNat (Nat.min n _)), ?_, by rw [r2]; exact .int _ _, r3, r4⟩
          simp [Builtin.copy_, run_und hu, hln, run_size hes, c3, goInt, r1]
        · cases h
      · cases h
    · cases h
  · cases h

theorem clear_ok (hr : Rel B G σ hp w) {t ty : TypeId} {x : AV} {vx : Value} {r : R} (h : doClear P hp nx t x = some r) (hx : Rv σ x vx) :
    OkV P B G σ hp nx w (Builtin.clear_ #[t] ty #[vx]) r := by
  unfold doClear at h
  split at h
  · rename_i e hu
    split at h
    · refine .rv hr h ⟨.tuple #[], ?_, .tup [] [] rfl (by simp)⟩
      rw [hx.inv_nils]
      simp [Builtin.clear_, run_und hu]
    · rename_i id off n _ _
      split at h
      · rename_i z hz
        obtain ⟨b, zz, c, hσ, rfl⟩ := hx.inv_sl
        rcases cond_eq_some h with ⟨hq, h'⟩ | ⟨hq, h'⟩
        · refine .rv hr h' ⟨.tuple #[], ?_, .tup [] [] rfl (by simp)⟩
          rw [beq_iff.1 hq]
          simp [Builtin.clear_, run_und hu]
        · have hn0 := beq_iff_f.1 hq
          obtain ⟨i, zv, hi, hz1, hz2⟩ := zeroA_spec hz
          obtain ⟨g1, g2⟩ := ofVal_cells (σ := σ) hz2
          have hsz : z.cells.length = zv.cells.size := by simpa using g1.1
          have hk : RL σ (repl n z.cells) (Builtin.zeroCells zv.cells n).toList ∧ ∀ u, u ∈ (Builtin.zeroCells zv.cells n).toList → oneC u = true := by
            by_cases h0 : z.cells.length = 0
            · have e1 : repl n z.cells = [] := List.eq_nil_of_length_eq_zero (by rw [repl_length, h0]; simp)
              have e2 : (Builtin.zeroCells zv.cells n).toList = [] := by
                refine List.eq_nil_of_length_eq_zero ?_
                simp [Builtin.zeroCells, ← hsz, h0]
              rw [e1, e2]; exact ⟨.nil, by simp⟩
            · exact zeros_ok g1 g2 h0 n (n * zv.cells.size) (by rw [hsz])
          obtain ⟨w', r1, r2, r3, r4⟩ := put_ok (P := P) hr h' hσ hk.1 hk.2
          refine ⟨σ, w', .tuple #[], ?_, by rw [r2]; exact .tup [] [] rfl (by simp), r3, r4⟩
          obtain ⟨m, rfl⟩ : ∃ m, n = m + 1 := ⟨n - 1, by omega⟩
          simp [Builtin.clear_, run_und hu, run_zero hi hz1, r1]
      · cases h
    · cases h
  · cases h
end
end Go.Ex
