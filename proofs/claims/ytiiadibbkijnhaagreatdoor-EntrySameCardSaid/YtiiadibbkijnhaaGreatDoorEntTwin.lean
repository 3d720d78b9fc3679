/-
  entry.Twin: an entry in rows of its own; slices.Clone of texts.
-/
import Derived.Test.YtiiadibbkijnhaaGreatDoorEntLent
import Derived.Deep.DrawnRows
namespace Go.Proofs.YtiiadibbkijnhaaGreatDoor
open Go.RowKit Go.FltLaw Go.EntLaw Go.Lib Go.RankLaw

theorem equalIn_slice {P : Program} {t e : TypeId} (ht : P.underlying t = some (.slice e)) (d : Nat) (ad : Addr) (n c : Nat) (w : World) : (Op.equalIn (d + 1) t (.slice (some ad) n c) (.slice none 0 0)).run P w = .ok false w := by
  unfold Op.equalIn
  rw [Sem.run_bind, run_underlying ht]
  rfl
theorem eql_slice {P : Program} {t e : TypeId} (ht : P.underlying t = some (.slice e)) (ad : Addr) (n c : Nat) (w : World) : (binOp .eql t (.slice (some ad) n c) (.slice none 0 0)).run P w = .ok (.bool false) w := by
  have h : binOp .eql t (.slice (some ad) n c) (.slice none 0 0) = (do pure (.bool (← Op.equal t (.slice (some ad) n c) (.slice none 0 0)))) := rfl
  rw [h, Sem.run_bind]
  have h2 : (Op.equal t (.slice (some ad) n c) (.slice none 0 0)).run P w = .ok false w := equalIn_slice ht 9999 ad n c w
  rw [h2]
  rfl
@[local go_sem] theorem eql_texts (ad : Addr) (n c : Nat) (w : World) : (binOp .eql 46 (.slice (some ad) n c) (.slice none 0 0)).run Tryz.prog w = .ok (.bool false) w := eql_slice Tryz.underlying46 ad n c w
theorem own_some {w : World} {B b n : Nat} {e : TypeId} {size : Nat} {v : Value} {xs : List Value} (h : w.ownsRow B e size v n xs) (hb : v.ownBlock = some b) : ∃ c, v = .slice (some ⟨b, 0, none⟩) n c := by
  rcases h.2 with ⟨hv, _⟩ | ⟨g, cap, cur, hv, _⟩
  · rw [hv] at hb; cases hb
  · refine ⟨cap, ?_⟩
    rw [hv] at hb ⊢
    simp only [Value.ownBlock, Option.some.injEq] at hb
    rw [hb]
theorem own_fix {w : World} {B : Nat} {v : Value} {e : TypeId} {m : Nat} {xs : List Value} (h : w.ownsRow B e 1 v (0 + m) ([] ++ xs)) : w.ownsRow B e 1 v m xs := by simpa using h

theorem blk_some {v : Value} {a b : Nat} (h : v.ownBlock = (Value.slice (some ⟨a, 0, none⟩) 0 0).ownBlock ∨ v.ownBlock = some b) : ∃ k, v.ownBlock = some k := by
  rcases h with h | h
  · exact ⟨a, h⟩
  · exact ⟨b, h⟩

set_option maxHeartbeats 1600000 in
set_option maxRecDepth 100000 in
theorem clone_p (ms : List (List UInt8)) (ad : Addr) (c : Nat) (w : World) (B : Nat) (h : VAt w 0 B ms (some ad) c) (hB : B ≤ w.heap.size) :
    Calls Tryz.prog 32 #[.slice (some ad) ms.length c] w fun e w' => ∃ g c', e = .returned (.slice (some ⟨g, 0, none⟩) ms.length c') ∧ w'.ownsRow w.heap.size 9 1 (.slice (some ⟨g, 0, none⟩) ms.length c') ms.length (ms.map txt) ∧ Below w.heap.size w w' := by
  have hn := h.n1
  have HRD := Lib.hid (fun o => (rd_txts (h.below (((Below.refl _ w).alloc (Nat.le_refl _) o).mono hB)).at_))
  have HOL := Lib.hid (World.ownsRow_lit (base := w.heap.size) (e := 9) (size := 1) w #[] 0 (Nat.le_refl _) (by simp [maxLen]) rfl)
  obtain ⟨j0, hjT, hy0, hy1, hy2⟩ := info_parts infoT
  clear h
  go_enter Tryz.func32, Tryz.ntmps32
  go_wp2_with (at_builtin; refine wpList_append_rd _ rfl (.tmp 5) (.tmp 6) _ rfl w.heap.size 9 j0 _ 16 Tryz.underlying46 hjT hy0 hy1 hy2 rfl (.slice (some ⟨w.heap.size, 0, none⟩) 0 0) 0 [] rfl HOL.out B (some ad) ms.length c _ rfl (HRD.out _) (txts_one ms) (by unfold maxLen; omega) (by omega) (by simp) ?_; intro v5 wb hoB hgB hatB; have HOB := Lib.hid (own_fix hoB); have hvb := blk_some hatB; obtain ⟨b5, hb5⟩ := hvb; obtain ⟨c5, rfl⟩ := own_some HOB.out hb5; have HBB := Lib.hid (((Below.refl w.heap.size w).alloc (Nat.le_refl _) (.cells #[] 9)).grown hgB (by simp) (fun k e => by simp [Value.ownBlock] at e; omega)); clear hoB hgB hatB hb5)

  go_ret
  exact ⟨_, _, rfl, HOB.out, HBB.out⟩

/-- Where Twin stands in its loop. -/
structure Twin8 (w wr : World) (KA : Option Addr) (kc : Nat) (l : List Atr) (j : Nat) (kv : Value) (rs : List Rw) : Prop where
  below : Below w.heap.size w wr
  eb : wr.heap[w.heap.size]? = some (.cells #[.slice KA l.length kc] 24 (0, 0))
  rb : wr.heap[w.heap.size + 1]? = some (.cells #[.slice none 0 0] 24 (0, 0))
  ob : wr.heap[w.heap.size + 2]? = some (.cells #[kv] 24 (0, 0))
  row : wr.ownsRow (w.heap.size + 3) 48 2 kv j (rowCells rs)
  rws : Rws wr 9 (w.heap.size + 3) [] rs
  eq : rs.map (·.a) = l.take j
theorem Twin8.size {w wr : World} {KA : Option Addr} {kc : Nat} {l : List Atr} {j : Nat} {kv : Value} {rs : List Rw} (h : Twin8 w wr KA kc l j kv rs) : w.heap.size + 3 ≤ wr.heap.size := by
  have := (Array.getElem?_eq_some_iff.1 h.ob).1
  omega
theorem Twin8.start (w : World) (KA : Option Addr) (kc : Nat) (l : List Atr) : Twin8 w (((w.alloc (.cells #[.slice KA l.length kc] 24)).alloc (.cells #[.slice none 0 0] 24)).alloc (.cells #[.slice none 0 0] 24)) KA kc l 0 (.slice none 0 0) [] := by
  refine ⟨(((Below.refl _ w).alloc (Nat.le_refl _) _).alloc (by simp) _).alloc (by simp; omega) _, ?_, ?_, ?_, World.ownsRow_nil _ _ _ _, Rws.nil _ _ _ _, rfl⟩
  · rw [Below.heap_alloc _ _ _ (by simp; omega)]; exact heap_alloc2_old w _ _
  · rw [Below.heap_alloc _ _ _ (by simp)]; exact heap_alloc2_new w _ _
  · have := heap_alloc_new ((w.alloc (.cells #[.slice KA l.length kc] 24)).alloc (.cells #[.slice none 0 0] 24)) (.cells #[.slice none 0 0] 24)
    simpa using this
/-- One attribute more: wb is behind the variable's box, w3 behind Clone, w4 behind the append. -/
theorem Twin8.step {w wr wb w3 w4 : World} {KA : Option Addr} {kc : Nat} {l : List Atr} {j : Nat} {kv : Value} {rs : List Rw} {a : Atr} {o : Obj} {g c gk ck : Nat} (h : Twin8 w wr KA kc l j kv rs) (ha : l[j]? = some a) (hs : Small a)
    (h1 : Below wr.heap.size wr wb) (h3 : Below wb.heap.size wb w3) (ho : w3.ownsRow wb.heap.size 9 1 (.slice (some ⟨g, 0, none⟩) a.vs.length c) a.vs.length (a.vs.map txt)) (hg : (w3.alloc o).grownBy w4 kv.ownBlock)
    (ho4 : w4.ownsRow (w.heap.size + 3) 48 2 (.slice (some ⟨gk, 0, none⟩) (j + 1) ck) (j + 1) (rowCells rs ++ [txt a.ds, .slice (some ⟨g, 0, none⟩) a.vs.length c])) :
    Twin8 w (w4.setCell ⟨w.heap.size + 2, 0, none⟩ (.slice (some ⟨gk, 0, none⟩) (j + 1) ck)) KA kc l (j + 1) (.slice (some ⟨gk, 0, none⟩) (j + 1) ck) (rs ++ [⟨a, g, c⟩]) := by
  have hsz := h.size
  have s1 := h1.size
  have s3 := h3.size
  have s4 := hg.size
  simp at s4
  have hrb : ∀ b, kv.ownBlock = some b → w.heap.size + 3 ≤ b ∧ b < wr.heap.size := fun b e => h.row.lt b e
  have keep : ∀ b, b < wr.heap.size → (∀ b', kv.ownBlock = some b' → b ≠ b') → w4.heap[b]? = wr.heap[b]? := fun b hb hne => by
    rw [hg.block b (by simp; omega) (fun e => hne b e.symm rfl), Below.heap_alloc _ _ _ (by omega), h3.block b (by omega), h1.block b hb]
  have hst : ∀ b, b ≠ w.heap.size + 2 → (w4.setCell ⟨w.heap.size + 2, 0, none⟩ (.slice (some ⟨gk, 0, none⟩) (j + 1) ck)).heap[b]? = w4.heap[b]? := fun b hb => Below.heap_setCell _ _ _ _ (by simpa using hb)
  have hbl : Below w.heap.size wr w4 := (((h1.mono (by omega)).trans (h3.mono (by omega))).alloc (by omega) o).grown hg (by simp; omega) (fun k e => by have := hrb k e; omega)
  have hob := (keep (w.heap.size + 2) (by omega) (fun b' e => by have := hrb b' e; omega)).trans h.ob
  have hgf := row_form ho
  refine ⟨(h.below.trans hbl).setCell (p := ⟨w.heap.size + 2, 0, none⟩) (by simp) _, ?_, ?_, one_setCell hob, ?_, ?_, ?_⟩
  · rw [hst _ (by omega), keep _ (by omega) (fun b' e => by have := hrb b' e; omega)]; exact h.eb
  · rw [hst _ (by omega), keep _ (by omega) (fun b' e => by have := hrb b' e; omega)]; exact h.rb
  · rw [rowCells_snoc]; exact own_blocks ho4 fun b hb => hst b (by omega)
  · refine h.rws.snoc (r := ⟨a, g, c⟩) (fun r hr => ?_) ?_ hs (by show wr.heap.size ≤ g; omega)
    · obtain ⟨i, hi⟩ := List.getElem?_of_mem hr
      have hf := h.rws.form hi
      rw [hst _ (by omega)]
      exact keep _ hf.2.1 (fun b' e e' => h.rws.ne (ta := 48) hr (by decide) h.row (by rw [e, e']))
    · have hm : w3.ownsRow (w.heap.size + 3) 9 1 (.slice (some ⟨g, 0, none⟩) a.vs.length c) a.vs.length (a.vs.map txt) := own_mono ho (by omega)
      have hm4 := (hm.alloc o).kept hg (.inr fun e => by have := hrb g e.symm; omega)
      have hm5 := own_blocks hm4 fun b hb => hst b (by omega)
      simpa using hm5
  · rw [List.map_append, h.eq, List.take_add_one, ha]; rfl

/-- An entry none of whose lists of values is nil. -/
structure SAt (w : World) (hi : Nat) (l : List Atr) (ad : Addr) : Prop where
  blk : ad.block < hi
  n1 : l.length * 40 ≤ 140737488351232
  at_ : ∀ i a, l[i]? = some a → ∃ av c, VAt w 0 hi a.vs (some av) c ∧ Small a ∧ w.cell? (ad.add (i * 2)) = some (txt a.ds) ∧ w.cell? (ad.add (i * 2 + 1)) = some (.slice (some av) a.vs.length c)
theorem Lent8.sat {w : World} {lo : Nat} {l : List Atr} {gk ck : Nat} {rs : List Rw} (h : Lent8 w lo l gk ck rs) (hn : l.length * 40 ≤ 140737488351232) : SAt w w.heap.size l ⟨gk, 0, none⟩ := by
  obtain ⟨r1, r2, r3, r4⟩ := row_form h.row
  have hl : rs.length = l.length := by rw [← h.eq]; simp
  have ad : ∀ g j, (⟨g, 0, none⟩ : Addr).add j = ⟨g, j, none⟩ := fun g j => by unfold Addr.add; split <;> simp_all
  refine ⟨r2, hn, fun i a hi => ?_⟩
  rw [← h.eq, List.getElem?_map] at hi
  obtain ⟨r, hr, rfl⟩ := Option.map_eq_some_iff.1 hi
  obtain ⟨f1, f2, f3, f4⟩ := h.rws.form hr
  have hsm := h.rws.small r (List.mem_of_getElem? hr)
  obtain ⟨c1, c2⟩ := rowCells_at hr
  have hlt : i < rs.length := (List.getElem?_eq_some_iff.1 hr).1
  refine ⟨⟨r.g, 0, none⟩, r.c, ⟨by simp at f3; omega, f4, hsm.vn, hsm.vs, fun _ => ⟨_, rfl, Nat.zero_le _, f2, fun j u hu => ?_⟩⟩, hsm, ?_, ?_⟩
  · rw [ad]
    refine row_cell (h.rws.row i r hr) ?_
    rw [List.getElem?_append_left (by simpa using (List.getElem?_eq_some_iff.1 hu).1), List.getElem?_map, hu]; rfl
  · rw [ad]
    exact row_cell h.row (by rw [List.getElem?_append_left (by rw [rowCells_len]; omega)]; exact c1)
  · rw [ad]
    exact row_cell h.row (by rw [List.getElem?_append_left (by rw [rowCells_len]; omega)]; exact c2)
theorem SAt.keep {w w' : World} {hi : Nat} {l : List Atr} {ad : Addr} (h : SAt w hi l ad) (hb : Below hi w w') : SAt w' hi l ad :=
  ⟨h.blk, h.n1, fun i a hi' => by
    obtain ⟨av, c, h1, h2, h3, h4⟩ := h.at_ i a hi'
    exact ⟨av, c, h1.below hb, h2, (hb.cell (by rw [RankLaw.add_block]; exact h.blk)).trans h3, (hb.cell (by rw [RankLaw.add_block]; exact h.blk)).trans h4⟩⟩
/-- A twin. -/
structure TwinR (w : World) (lo : Nat) (l : List Atr) (KA : Option Addr) (kc : Nat) (rs : List Rw) : Prop where
  row : w.ownsRow lo 48 2 (.slice KA l.length kc) l.length (rowCells rs)
  rws : Rws w 9 lo [] rs
  eq : rs.map (·.a) = l

theorem own_sl {w : World} {B n : Nat} {e : TypeId} {size : Nat} {v : Value} {xs : List Value} (h : w.ownsRow B e size v n xs) : ∃ A c, v = .slice A n c ∧ n ≤ c := by
  rcases h.2 with ⟨hv, h0⟩ | ⟨g, cap, cur, hv, _, _, hc, _⟩
  · exact ⟨none, 0, by rw [hv, h0], by omega⟩
  · exact ⟨_, cap, hv, hc⟩
theorem Twin8.fin {w wr : World} {KA KB : Option Addr} {kc ck : Nat} {l : List Atr} {rs : List Rw} {cs : Array Value} (h : Twin8 w wr KA kc l l.length (.slice KB l.length ck) rs) : TwinR (wr.setRow (w.heap.size + 1) cs) w.heap.size l KB ck rs := by
  have hh : ∀ b, w.heap.size + 3 ≤ b → (wr.setRow (w.heap.size + 1) cs).heap[b]? = wr.heap[b]? := fun b hb => setRow_other _ _ _ _ (by omega)
  have h1 : Rws (wr.setRow (w.heap.size + 1) cs) 9 (w.heap.size + 3) [] rs := h.rws.keep fun r hr => by
    obtain ⟨i, hi⟩ := List.getElem?_of_mem hr
    exact hh _ (h.rws.form hi).1
  exact ⟨own_mono (own_blocks h.row hh) (by omega), ⟨fun i r hi => own_mono (h1.row i r hi) (by omega), h1.small, h1.rise⟩, by rw [h.eq, List.take_length]⟩
theorem Twin8.finB {w wr : World} {KA : Option Addr} {kc : Nat} {l : List Atr} {kv : Value} {rs : List Rw} {cs : Array Value} (h : Twin8 w wr KA kc l l.length kv rs) : Below w.heap.size w (wr.setRow (w.heap.size + 1) cs) :=
  h.below.trans ⟨rfl, rfl, rfl, by simp, fun b hb => setRow_other _ _ _ _ (by omega)⟩

set_option maxHeartbeats 3200000 in
set_option maxRecDepth 100000 in
theorem twin_p (l : List Atr) (ad : Addr) (kc : Nat) (w : World) (B : Nat) (hE : SAt w B l ad) (hB : B ≤ w.heap.size) :
    Calls Tryz.prog 18 #[ent (some ad) l.length kc] w fun e w' => ∃ KA ck rs, e = .returned (.agg #[.slice KA l.length ck]) ∧ TwinR w' w.heap.size l KA ck rs ∧ Below w.heap.size w w' := by
  have H := Lib.hid hE
  have hn := hE.n1
  have hadB := hE.blk
  have HS := Lib.hid (Twin8.start w (some ad) kc l)
  clear hE
  obtain ⟨i0, hi, hz0, hz1, hz2⟩ := info_parts infoA
  go_enter Tryz.func18, Tryz.ntmps18
  go_wp2_with fail
  go_loopw [9] (fun i wr => ∃ (j : Nat) (kv : Value) (rs : List Rw), j ≤ l.length ∧ i = .int .i64 j ∧ Twin8 w wr (some ad) kc l j kv rs) (fun i _ => l.length - (RowKit.intOf i).toNat)
  case atStart => exact ⟨0, _, _, Nat.zero_le _, rfl, HS.out⟩
  case round =>
    obtain ⟨j, kv, rs, hj, rfl, hL⟩ := hrel
    have HL := Lib.hid hL
    have hsz := hL.size
    have hbw := hL.below
    by_cases hlt : j < l.length
    · have hk := List.getElem?_eq_getElem hlt
      generalize l[j] = q at hk
      obtain ⟨av, c, hv, hsm, e0, e1⟩ := H.out.at_ j q hk
      have HSM := Lib.hid hsm
      have HK := Lib.hid hk
      have hvn := hsm.vn
      have HV := Lib.hid hv
      obtain ⟨m0, m1⟩ := two_at (((hbw.mono hB).cell (p := ad.add (j * 2)) (by rw [RankLaw.add_block]; exact hadB)).trans e0) (((hbw.mono hB).cell (p := ad.add (j * 2 + 1)) (by rw [RankLaw.add_block]; exact hadB)).trans e1)
      unfold txt at m0
      have hrb : ∀ b, kv.ownBlock = some b → w.heap.size + 3 ≤ b ∧ b < wr.heap.size := fun b e => hL.row.lt b e
      have HRB := Lib.hid hrb
      have HROW := Lib.hid hL.row
      have HOB := Lib.hid hL.ob
      have HBW := Lib.hid hbw
      clear hv hsm e0 e1 hk hL hrb hbw
      go_upto_region 5 with fail
      have hkb := heap_alloc_new wr (.cells #[.string ⟨q.ds.toArray⟩, .slice (some av) q.vs.length c] 48)
      have hob : (wr.alloc (.cells #[.string ⟨q.ds.toArray⟩, .slice (some av) q.vs.length c] 48)).heap[w.heap.size + 2]? = some (.cells #[kv] 24 (0, 0)) := by rw [Below.heap_alloc _ _ _ (by omega)]; exact HOB.out
      have hw1 : Below wr.heap.size wr (wr.alloc (.cells #[.string ⟨q.ds.toArray⟩, .slice (some av) q.vs.length c] 48)) := (Below.refl _ _).alloc (Nat.le_refl _) _
      have hwz : (wr.alloc (.cells #[.string ⟨q.ds.toArray⟩, .slice (some av) q.vs.length c] 48)).heap.size = wr.heap.size + 1 := by simp
      clear m0 m1
      generalize wr.alloc (.cells #[.string ⟨q.ds.toArray⟩, .slice (some av) q.vs.length c] 48) = wb at hkb hob hw1 hwz ⊢
      have HW1 := Lib.hid hw1
      have HOBB := Lib.hid hob
      have HKB := Lib.hid hkb
      have q1 : wb.cell? ⟨w.heap.size + 2, 0, none⟩ = some kv := cell_of_one hob
      have l0 : wb.cell? ⟨wr.heap.size, 0, none⟩ = some (.string ⟨q.ds.toArray⟩) := by simp [World.cell?, hkb]
      have l1 : wb.cell? ⟨wr.heap.size, 1, none⟩ = some (.slice (some av) q.vs.length c) := by simp [World.cell?, hkb]
      have hvb : VAt wb.drew 0 B q.vs (some av) c := (HV.out.below (HBW.out.trans (hw1.mono (by omega)) |>.mono hB)).keep fun _ _ _ => rfl
      have HVB := Lib.hid hvb
      clear hkb hob hw1 hvb
      go_region_law (first
        | (refine step_append_lies _ (by rfl) _ _ _ (by rfl) (w.heap.size + 3) 48 i0 _ 2 40 Tryz.underlying22 hi hz0 hz1 hz2 rfl (by omega) kv j (rowCells rs) (by rfl) (HR3.out.alloc _) ⟨w3.heap.size, 0, none⟩ 1 1 [.string ⟨q.ds.toArray⟩, .slice (some ⟨g, 0, none⟩) q.vs.length cv] (by rfl) (by rfl) (pair_new w3 _ _ _) (by simp [Value.oneCell']) (by omega) (by unfold maxLen; omega) (by omega) (by simp; omega) (w3.heap.size + 1) (by simp) ?_; intro gk ck w4 hoD hgD hatD hltD; have HOD := Lib.hid hoD; have HGD := Lib.hid hgD; have ho4 := (hgD.block (w.heap.size + 2) (by simp; omega) (fun e => by have := HRB.out _ e.symm; omega)).trans ((Below.heap_alloc _ _ _ (by omega)).trans HO3.out); have p1 : w4.cell? ⟨w.heap.size + 2, 0, none⟩ = some kv := cell_of_one ho4; have p2 : w4.frozen? ⟨w.heap.size + 2, 0, none⟩ = false := free_of_one ho4; clear hoD hgD hatD ho4)
        | (go_simp; go_at_call 32; (with_reducible refine (clone_p q.vs av c _ B HVB.out (by simp; omega)).mono ?_); rintro e w3 ⟨g, cv, rfl, ho3, hb3⟩; have HB3 := Lib.hid ((Below.refl wb.heap.size wb).drew.trans hb3); have hz3 : wb.heap.size ≤ w3.heap.size := (by simpa using hb3.size); have HCO := Lib.hid ho3; have HO3 := Lib.hid ((HB3.out.block (w.heap.size + 2) (by omega)).trans HOBB.out); have HR3 := Lib.hid (own_later (own_later HROW.out HW1.out) HB3.out); have q3 : w3.cell? ⟨w.heap.size + 2, 0, none⟩ = some kv := cell_of_one HO3.out; have q3' : ∀ o, (w3.alloc o).cell? ⟨w.heap.size + 2, 0, none⟩ = some kv := (fun o => cell_of_one ((Below.heap_alloc _ _ _ (by omega)).trans HO3.out)); have hk3 := (HB3.out.block wr.heap.size (by omega)).trans HKB.out; have l0' : w3.cell? ⟨wr.heap.size, 0, none⟩ = some (.string ⟨q.ds.toArray⟩) := (by simp [World.cell?, hk3]); have l1' : w3.cell? ⟨wr.heap.size, 1, none⟩ = some (.slice (some av) q.vs.length c) := (by simp [World.cell?, hk3]); clear ho3 hb3 hk3; dsimp only))
      all_goals
        go_wp2_with fail
        go_round
        case rel => exact ⟨j + 1, _, _, by omega, by go_num, HL.out.step (o := .cells #[.string ⟨q.ds.toArray⟩, .slice (some ⟨g, 0, none⟩) q.vs.length cv] 48) HK.out HSM.out HW1.out HB3.out HCO.out HGD.out HOD.out⟩
        case measure => simp [RowKit.intOf]; omega
    · have ej : j = l.length := by omega
      subst ej
      obtain ⟨KA, ck, rfl, _⟩ := own_sl hL.row
      have c0 := cell_of_one hL.ob
      have HRB := Lib.hid hL.rb
      clear hL
      go_wp2_with (refine wpList_store_row rfl 24 (.tmp 2) (.tmp 25) rfl (w.heap.size + 1) #[.slice KA l.length ck] rfl rfl 24 #[.slice none 0 0] HRB.out (by kernel_rfl) rfl (by simp [Value.oneCell']) ?_)
      (try simp only [Exit.inBlock, Exit.then])
      refine bodyPost_ret (results_cell_row rfl _ _ (w.heap.size + 1) 24 _ (0, 0) _ rfl (setRow_heap _ _ _ _ _ _ HRB.out) Tryz.underlying24 rfl (by kernel_rfl)) rfl ?_
      exact ⟨KA, ck, rs, rfl, HL.out.fin, HL.out.finB⟩
end Go.Proofs.YtiiadibbkijnhaaGreatDoor
