/-
  rosterlaw08.EntrySame: two entries, and their copies.
-/
import Derived.Test.YtiiadibbkijnhaaGreatDoorEntApart
import Derived.Test.YtiiadibbkijnhaaGreatDoorEntNil3
namespace Go.Proofs.YtiiadibbkijnhaaGreatDoor
open Go.RowKit Go.FltLaw Go.EntLaw Go.Lib Go.RankLaw

theorem own_far {w w' : World} {B n : Nat} {e : TypeId} {size : Nat} {v : Value} {xs : List Value} (h : w.ownsRow B e size v n xs) (hk : ∀ b, B ≤ b → b < w.heap.size → w'.heap[b]? = w.heap[b]?) : w'.ownsRow B e size v n xs := by
  refine ⟨h.1, h.2.imp id fun ⟨g, cap, cur, h1, h2, h3, h4⟩ => ⟨g, cap, cur, h1, h2, ?_, h4⟩⟩
  rw [hk g h2 (Array.getElem?_eq_some_iff.1 h3).1]
  exact h3
section
variable {w w' : World} {lo : Nat} {l : List Atr} {KA : Option Addr} {kc gk ck : Nat} {rs : List Rw}
theorem TwinR.keep (h : TwinR w lo l KA kc rs) (hk : ∀ b, lo ≤ b → b < w.heap.size → w'.heap[b]? = w.heap[b]?) : TwinR w' lo l KA kc rs :=
  ⟨own_far h.row hk, h.rws.keep fun r hr => by
    obtain ⟨i, hi⟩ := List.getElem?_of_mem hr
    have hf := h.rws.form hi
    exact hk _ hf.1 hf.2.1, h.eq⟩
theorem TwinR.eat (h : TwinR w lo l KA kc rs) (hn : l.length * 40 ≤ 140737488351232) : EAt w lo w.heap.size l KA kc := by
  have hl : rs.length = l.length := by rw [← h.eq]; simp
  rcases h.row.2 with ⟨hv, h0⟩ | ⟨g, cap, cur, hv, hb, hg, hc, hcm, r⟩
  · simp only [Value.slice.injEq] at hv
    obtain ⟨rfl, _, rfl⟩ := hv
    exact ⟨by omega, by simp [maxLen], by omega, fun hp => by omega⟩
  · simp only [Value.slice.injEq, true_and] at hv
    obtain ⟨rfl, rfl⟩ := hv
    have h1 : w.ownsRow lo 48 2 (.slice (some ⟨g, 0, none⟩) l.length kc) l.length (rowCells rs ++ []) := by simpa using h.row
    have := h.rws.entry h1 (Nat.le_refl _) (Nat.le_refl _) (by omega)
    rwa [h.eq] at this
theorem Lent8.eat (h : Lent8 w lo l gk ck rs) (hn : l.length * 40 ≤ 140737488351232) : EAt w lo w.heap.size l (some ⟨gk, 0, none⟩) ck := by
  have hl : rs.length = l.length := by rw [← h.eq]; simp
  have := h.rws.entry h.row (Nat.le_refl _) (Nat.le_refl _) (by omega)
  rwa [h.eq] at this
theorem Lent8.keep (h : Lent8 w lo l gk ck rs) (hk : ∀ b, lo ≤ b → b < w.heap.size → w'.heap[b]? = w.heap[b]?) : Lent8 w' lo l gk ck rs :=
  ⟨own_far h.row hk, h.rws.keep fun r hr => by
    obtain ⟨i, hi⟩ := List.getElem?_of_mem hr
    have hf := h.rws.form hi
    exact hk _ hf.1 hf.2.1, h.eq⟩
theorem Lent8.fix {w2 : World} (h : Lent8 w lo l gk ck rs) (h2 : w.heap.size ≤ w2.heap.size) : Fix8 w2 lo w.heap.size gk l.length rs := by
  obtain ⟨r1, r2, r3, r4⟩ := row_form h.row
  refine ⟨r1, r2, h2, fun r hr => ?_, by rw [← h.eq]; simp, h.rws.rise⟩
  obtain ⟨i, hi⟩ := List.getElem?_of_mem hr
  have hf := h.rws.form hi
  exact ⟨hf.1, hf.2.1⟩
end

/-- The copies lie where they were laid: wC: behind lent; wD, wE: behind the twins. -/
structure Made8 (w wB wC wD wE : World) (l : List Atr) (gk ck : Nat) (rs : List Rw) (KX KY : Option Addr) (cx cy : Nat) (rx ry : List Rw) : Prop where
  b0 : Below w.heap.size w wB
  sB : w.heap.size + 2 ≤ wB.heap.size
  k : Lent8 wC wB.heap.size l gk ck rs
  bC : Below wB.heap.size wB wC
  x : TwinR wD (wC.heap.size + 1) l KX cx rx
  bD : Below (wC.heap.size + 1) (wC.alloc (.cells #[.slice (some ⟨gk, 0, none⟩) l.length ck] 24)) wD
  y : TwinR wE (wD.heap.size + 1) l KY cy ry
  bE : Below (wD.heap.size + 1) (wD.alloc (.cells #[.slice KX l.length cx] 24)) wE

section
variable {w wB wC wD wE wF wG wH : World} {l : List Atr} {gk ck : Nat} {rs : List Rw} {KX KY : Option Addr} {cx cy : Nat} {rx ry : List Rw}
theorem Made8.sizes (h : Made8 w wB wC wD wE l gk ck rs KX KY cx cy rx ry) : w.heap.size + 2 ≤ wB.heap.size ∧ wB.heap.size ≤ wC.heap.size ∧ wC.heap.size + 1 ≤ wD.heap.size ∧ wD.heap.size + 1 ≤ wE.heap.size := by
  have h1 := h.bC.size
  have h2 := h.bD.size
  have h3 := h.bE.size
  simp at h2 h3
  exact ⟨h.sB, h1, h2, h3⟩
theorem Made8.fromD (h : Made8 w wB wC wD wE l gk ck rs KX KY cx cy rx ry) (o : Obj) {b : Nat} (hb : b < wD.heap.size) : (wE.alloc o).heap[b]? = wD.heap[b]? := by
  obtain ⟨_, _, _, s4⟩ := h.sizes
  rw [Below.heap_alloc _ _ _ (by omega), h.bE.block b (by omega), Below.heap_alloc _ _ _ hb]
theorem Made8.fromC (h : Made8 w wB wC wD wE l gk ck rs KX KY cx cy rx ry) (o : Obj) {b : Nat} (hb : b < wC.heap.size) : (wE.alloc o).heap[b]? = wC.heap[b]? := by
  obtain ⟨_, _, s3, _⟩ := h.sizes
  rw [h.fromD o (by omega), h.bD.block b (by omega), Below.heap_alloc _ _ _ hb]
theorem Made8.below (h : Made8 w wB wC wD wE l gk ck rs KX KY cx cy rx ry) (o : Obj) : Below w.heap.size w (wE.alloc o) := by
  obtain ⟨s1, s2, s3, s4⟩ := h.sizes
  exact (((h.b0.trans (h.bC.mono (by omega))).alloc (by omega) _).trans (h.bD.mono (by omega))).alloc (by omega) _ |>.trans (h.bE.mono (by omega)) |>.alloc (by omega) o
theorem Made8.boxes (h : Made8 w wB wC wD wE l gk ck rs KX KY cx cy rx ry) : (wE.alloc (.cells #[.slice KY l.length cy] 24)).heap[wC.heap.size]? = some (.cells #[.slice (some ⟨gk, 0, none⟩) l.length ck] 24 (0, 0)) ∧
    (wE.alloc (.cells #[.slice KY l.length cy] 24)).heap[wD.heap.size]? = some (.cells #[.slice KX l.length cx] 24 (0, 0)) ∧ (wE.alloc (.cells #[.slice KY l.length cy] 24)).heap[wE.heap.size]? = some (.cells #[.slice KY l.length cy] 24 (0, 0)) := by
  obtain ⟨s1, s2, s3, s4⟩ := h.sizes
  refine ⟨?_, ?_, heap_alloc_new _ _⟩
  · rw [h.fromD _ (by omega), h.bD.block _ (by omega), heap_alloc_new]
  · rw [Below.heap_alloc _ _ _ (by omega), h.bE.block _ (by omega), heap_alloc_new]
theorem Made8.eats (h : Made8 w wB wC wD wE l gk ck rs KX KY cx cy rx ry) (hn : l.length * 40 ≤ 140737488351232) (o : Obj) (hF : Below (wE.heap.size + 1) (wE.alloc o) wF) : EAt wF 0 wC.heap.size l (some ⟨gk, 0, none⟩) ck ∧ KAt wF wC.heap.size l ⟨gk, 0, none⟩ ck ∧
    EAt wF (wC.heap.size + 1) wD.heap.size l KX cx ∧ EAt wF (wD.heap.size + 1) wE.heap.size l KY cy := by
  obtain ⟨s1, s2, s3, s4⟩ := h.sizes
  have toC : Below wC.heap.size wC wF := (((((Below.refl wC.heap.size wC).alloc (Nat.le_refl _) _).trans (h.bD.mono (by omega))).alloc (by omega) _).trans (h.bE.mono (by omega))).alloc (by omega) o |>.trans (hF.mono (by omega))
  have toD : Below wD.heap.size wD wF := ((((Below.refl wD.heap.size wD).alloc (Nat.le_refl _) _).trans (h.bE.mono (by omega))).alloc (by omega) o).trans (hF.mono (by omega))
  have toE : Below wE.heap.size wE wF := ((Below.refl wE.heap.size wE).alloc (Nat.le_refl _) o).trans (hF.mono (by omega))
  exact ⟨((h.k.eat hn).below toC).wide (by omega) (Nat.le_refl _), h.k.kat.keep toC, (h.x.eat hn).below toD, (h.y.eat hn).below toE⟩
theorem Made8.lent (h : Made8 w wB wC wD wE l gk ck rs KX KY cx cy rx ry) (o : Obj) (hF : Below (wE.heap.size + 1) (wE.alloc o) wF) : Lent8 wF wB.heap.size l gk ck rs ∧ Fix8 wF wB.heap.size wC.heap.size gk l.length rs := by
  obtain ⟨s1, s2, s3, s4⟩ := h.sizes
  have hs := hF.size
  simp at hs
  exact ⟨h.k.keep fun b _ hb => (hF.block b (by omega)).trans (h.fromC o hb), h.k.fix (by omega)⟩
/-- Behind spoil. -/
theorem Made8.spoilt (h : Made8 w wB wC wD wE l gk ck rs KX KY cx cy rx ry) (o : Obj) (hF : Below (wE.heap.size + 1) (wE.alloc o) wF) (hS : Spared wB.heap.size wC.heap.size wF wG) : (∀ b, wC.heap.size ≤ b → b < wE.heap.size + 1 → wG.heap[b]? = (wE.alloc o).heap[b]?) ∧ (∀ b, b < wB.heap.size → wG.heap[b]? = (wE.alloc o).heap[b]?) ∧ Below w.heap.size w wG := by
  obtain ⟨s1, s2, s3, s4⟩ := h.sizes
  have hs := hF.size
  simp at hs
  refine ⟨fun b h1 h2 => (hS.block b (.inr ⟨h1, by omega⟩)).trans (hF.block b h2), fun b hb => (hS.block b (.inl hb)).trans (hF.block b (by omega)), ?_⟩
  exact ((h.below o).trans (hF.mono (by omega))).trans ⟨hS.os, hS.tape, hS.output, hS.size, fun b hb => hS.block b (.inl (by omega))⟩
theorem Made8.twins (h : Made8 w wB wC wD wE l gk ck rs KX KY cx cy rx ry) (o : Obj) (hG : ∀ b, wC.heap.size ≤ b → b < wE.heap.size + 1 → wG.heap[b]? = (wE.alloc o).heap[b]?) (hs2 : wE.heap.size + 1 ≤ wG.heap.size) (hH : Below wG.heap.size wG wH) : TwinR wH (wC.heap.size + 1) l KX cx rx ∧ TwinR wH (wD.heap.size + 1) l KY cy ry ∧ ∀ r : Rw, r ∈ rx → r.g < wD.heap.size + 1 := by
  obtain ⟨s1, s2, s3, s4⟩ := h.sizes
  refine ⟨h.x.keep fun b h1 h2 => ?_, h.y.keep fun b h1 h2 => ?_, fun r hr => ?_⟩
  · rw [hH.block b (by omega), hG b (by omega) (by omega), h.fromD o h2]
  · rw [hH.block b (by omega), hG b (by omega) (by omega), Below.heap_alloc _ _ _ h2]
  · obtain ⟨i, hi⟩ := List.getElem?_of_mem hr
    have := (h.x.rws.form hi).2.1
    omega
end

set_option maxHeartbeats 6400000 in
set_option maxRecDepth 100000 in
theorem entrySame_walked (w : World) (HW : Works8 w) (l m : List Atr) (KA KB : Option Addr) (kc kc' : Nat) (B : Nat) (hE : EAt w 0 B l KA kc) (hE' : EAt w 0 B m KB kc') (hB : B ≤ w.heap.size) :
    Calls Tryz.prog 5 #[ent KA l.length kc, ent KB m.length kc'] w fun e w' => e = .returned (.bool true) ∧ Below w.heap.size w w' := by
  have hn := hE.n1
  have HE := Lib.hid hE
  have HE' := Lib.hid hE'
  have hp := Pair8.start w (.slice KA l.length kc) (.slice KB m.length kc')
  have hw1 : ((w.alloc (.cells #[.slice KA l.length kc] 24)).alloc (.cells #[.slice KB m.length kc'] 24)).heap.size = w.heap.size + 2 := by simp
  have HWK := Lib.hid HW
  clear hE hE' HW
  go_enter Tryz.func5, Tryz.ntmps5
  go_upto_region 1 with fail
  generalize (w.alloc (.cells #[.slice KA l.length kc] 24)).alloc (.cells #[.slice KB m.length kc'] 24) = w1 at hp hw1 ⊢
  have HP := Lib.hid hp
  obtain ⟨c1, c2⟩ := hp.cells
  have hbp := hp.below
  have HB1 := Lib.hid hbp
  clear hp hbp
  go_upto_region 3 with (first
    | (go_at_call 16; (with_reducible refine (beyond8_p l KA kc w1 B (HE.out.below (HB1.out.mono hB)) (by omega)).mono ?_); rintro e wA ⟨⟨x1, rfl⟩, hbA⟩; have HPA := Lib.hid (HP.out.later (hbA.mono (by omega))); have hzA := hbA.size; have cA2 := HPA.out.cells.2; clear hbA; cases x1)
    | (go_at_call 16; (with_reducible refine (beyond8_p m KB kc' wA B (HE'.out.below (HPA.out.below.mono hB)) (by omega)).mono ?_); rintro e wB ⟨⟨x2, rfl⟩, hbB⟩; have HPB := Lib.hid (HPA.out.later (hbB.mono (by omega))); have hzB := hbB.size; have cB1 := HPB.out.cells.1; have cB2 := HPB.out.cells.2; clear hbB; cases x2))
  · go_upto_region 6 with (first
      | (go_at_call 17; (with_reducible refine (lent_p l KA kc wB B (HE.out.below (HPB.out.below.mono hB)) (by omega)).mono ?_); rintro e wC ⟨gk, ck, rs, rfl, hk, hbC⟩; have HKC := Lib.hid hk; have HBC := Lib.hid hbC; have hzC := hbC.size; have HSC := Lib.hid (fun o => (hk.sat hn).keep ((Below.refl wC.heap.size wC).alloc (Nat.le_refl _) o)); clear hk hbC)
      | (go_at_call 18; (with_reducible refine (twin_p l ⟨gk, 0, none⟩ ck _ wC.heap.size (HSC.out (.cells #[.slice (some ⟨gk, 0, none⟩) l.length ck] 24)) (by simp)).mono ?_); rintro e wD ⟨KX, cx, rx, rfl, hx, hbD⟩; rw [World.size_alloc] at hx hbD; have HXD := Lib.hid hx; have HBD := Lib.hid hbD; have hzD : wC.heap.size + 1 ≤ wD.heap.size := (by simpa using hbD.size); have HSD := Lib.hid (fun o => (HSC.out (.cells #[.slice (some ⟨gk, 0, none⟩) l.length ck] 24)).keep ((hbD.mono (by omega)).alloc (by omega) o)); have cD5 : ∀ o, (wD.alloc o).cell? ⟨wC.heap.size, 0, none⟩ = some (.slice (some ⟨gk, 0, none⟩) l.length ck) := (fun o => cell_of_one ((Below.heap_alloc _ _ _ (by omega)).trans ((hbD.block wC.heap.size (by omega)).trans (heap_alloc_new wC _)))); clear hx hbD)
      | (go_at_call 18; (with_reducible refine (twin_p l ⟨gk, 0, none⟩ ck _ wC.heap.size (HSD.out (.cells #[.slice KX l.length cx] 24)) (by simp; omega)).mono ?_); rintro e wE ⟨KY, cy, ry, rfl, hy, hbE⟩; rw [World.size_alloc] at hy hbE; have HYE := Lib.hid hy; have HBE := Lib.hid hbE; have hzE : wD.heap.size + 1 ≤ wE.heap.size := (by simpa using hbE.size); clear hy hbE))
    have hm : Made8 w wB wC wD wE l gk ck rs KX KY cx cy rx ry := ⟨HPB.out.below, HPB.out.size, HKC.out, HBC.out, HXD.out, HBD.out, HYE.out, HBE.out⟩
    have HM := Lib.hid hm
    obtain ⟨k1, k2, k3⟩ := hm.boxes
    obtain ⟨s1, s2, s3, s4⟩ := hm.sizes
    have hP5 := HPB.out.later (w2 := wE.alloc (.cells #[.slice KY l.length cy] 24)) ⟨(hm.below _).os.trans HPB.out.below.os.symm, (hm.below _).tape.trans HPB.out.below.tape.symm, (hm.below _).output.trans HPB.out.below.output.symm, (by simp; omega), fun b hb => (hm.fromC _ (by omega)).trans (HBC.out.block b (by omega))⟩
    have hw5 : (wE.alloc (.cells #[.slice KY l.length cy] 24)).heap.size = wE.heap.size + 1 := by simp
    have hef := fun wF (hF : Below (wE.heap.size + 1) (wE.alloc (.cells #[.slice KY l.length cy] 24)) wF) => hm.eats hn (.cells #[.slice KY l.length cy] 24) hF
    have hlf := fun wF (hF : Below (wE.heap.size + 1) (wE.alloc (.cells #[.slice KY l.length cy] 24)) wF) => hm.lent (.cells #[.slice KY l.length cy] 24) hF
    have hsf := fun wF wG (hF : Below (wE.heap.size + 1) (wE.alloc (.cells #[.slice KY l.length cy] 24)) wF) (hS : Spared wB.heap.size wC.heap.size wF wG) => hm.spoilt (.cells #[.slice KY l.length cy] 24) hF hS
    have htf := fun wG wH => hm.twins (wG := wG) (wH := wH) (.cells #[.slice KY l.length cy] 24)
    clear hm cD5 HSC HSD HKC HBC HXD HBD HYE HBE c1 c2 cA2 cB1 cB2
    generalize wE.alloc (.cells #[.slice KY l.length cy] 24) = w5 at k1 k2 k3 hP5 hw5 hef hlf hsf htf ⊢
    have HEF := Lib.hid hef
    have HLF := Lib.hid hlf
    have HSF := Lib.hid hsf
    have HTF := Lib.hid htf
    have HP5 := Lib.hid hP5
    have HK1 := Lib.hid k1
    have HK2 := Lib.hid k2
    have HK3 := Lib.hid k3
    clear hef hlf hsf htf
    obtain ⟨b1, b2⟩ := hP5.cells
    have b3 := cell_of_one k1
    have b4 := cell_of_one k2
    have b5 := cell_of_one k3
    have hE5 := hP5.below
    clear k1 k2 k3 hP5
    have hz5 : w.heap.size + 2 ≤ w5.heap.size := by omega
    have rg := fun d os => below_regrown w5 d os
    have hcs : ∀ (d : Nat) (os : Array Obj), Calls Tryz.prog 19 #[.agg #[.slice KA l.length kc], .agg #[.slice KB m.length kc']] (Sort.grow (redrawn w5 d) os) fun e w'' => e = .returned (.bool (decide (l = m))) ∧ ∃ p : Regrown, w'' = Sort.grow (redrawn w5 p.d) p.os := fun d os => by
      have hb := rg d os
      have hs := hb.size
      have hw := hE5.trans (hb.mono (by omega))
      exact Calls.regrown_of (same_p l m KA KB kc kc' _ B B (HE.out.below (hw.mono hB)) (HE'.out.below (hw.mono hB)) (by omega) (by omega))
    have hcr : ∀ (d : Nat) (os : Array Obj), Calls Tryz.prog 20 #[.agg #[.slice KA l.length kc], .agg #[.slice KB m.length kc']] (Sort.grow (redrawn w5 d) os) fun e w'' => e = .returned (.bool (decide (l = m))) ∧ ∃ p : Regrown, w'' = Sort.grow (redrawn w5 p.d) p.os := fun d os => by
      have hb := rg d os
      have hs := hb.size
      have hw := hE5.trans (hb.mono (by omega))
      exact Calls.regrown_of (rsame_p l m KA KB kc kc' _ B B (HE.out.below (hw.mono hB)) (HE'.out.below (hw.mono hB)) (by omega) (by omega))
    have hct : ∀ (d : Nat) (os : Array Obj), Calls Tryz.prog 19 #[.agg #[.slice KB m.length kc'], .agg #[.slice KA l.length kc]] (Sort.grow (redrawn w5 d) os) fun e w'' => e = .returned (.bool (decide (l = m))) ∧ ∃ p : Regrown, w'' = Sort.grow (redrawn w5 p.d) p.os := fun d os => by
      have hb := rg d os
      have hs := hb.size
      have hw := hE5.trans (hb.mono (by omega))
      refine Calls.regrown_of ((same_p m l KB KA kc' kc _ B B (HE'.out.below (hw.mono hB)) (HE.out.below (hw.mono hB)) (by omega) (by omega)).mono fun e w' ⟨h1, h2⟩ => ⟨?_, h2⟩)
      rw [h1]
      congr 2
      exact decide_eq_decide.2 ⟨Eq.symm, Eq.symm⟩
    have hck : ∀ (d : Nat) (os : Array Obj), Calls Tryz.prog 19 #[.agg #[.slice KA l.length kc], .agg #[.slice (some ⟨gk, 0, none⟩) l.length ck]] (Sort.grow (redrawn w5 d) os) fun e w'' => e = .returned (.bool true) ∧ ∃ p : Regrown, w'' = Sort.grow (redrawn w5 p.d) p.os := fun d os => by
      have hb := rg d os
      have hs := hb.size
      have hw := hE5.trans (hb.mono (by omega))
      obtain ⟨e1, e2, e3, e4⟩ := HEF.out _ (hb.mono (by omega))
      exact Calls.regrown_of ((same_p l l KA (some ⟨gk, 0, none⟩) kc ck _ B wC.heap.size (HE.out.below (hw.mono hB)) e1 (by omega) (by omega)).mono fun e w' ⟨h1, h2⟩ => ⟨by rw [h1, decide_eq_true rfl], h2⟩)
    have hcx : ∀ (d : Nat) (os : Array Obj), Calls Tryz.prog 20 #[.agg #[.slice KX l.length cx], .agg #[.slice KA l.length kc]] (Sort.grow (redrawn w5 d) os) fun e w'' => e = .returned (.bool true) ∧ ∃ p : Regrown, w'' = Sort.grow (redrawn w5 p.d) p.os := fun d os => by
      have hb := rg d os
      have hs := hb.size
      have hw := hE5.trans (hb.mono (by omega))
      obtain ⟨e1, e2, e3, e4⟩ := HEF.out _ (hb.mono (by omega))
      exact Calls.regrown_of ((rsame_p l l KX KA cx kc _ wD.heap.size B (e3.wide (Nat.zero_le _) (Nat.le_refl _)) (HE.out.below (hw.mono hB)) (by omega) (by omega)).mono fun e w' ⟨h1, h2⟩ => ⟨by rw [h1, decide_eq_true rfl], h2⟩)
    have hcy : ∀ (d : Nat) (os : Array Obj), Calls Tryz.prog 20 #[.agg #[.slice KY l.length cy], .agg #[.slice KA l.length kc]] (Sort.grow (redrawn w5 d) os) fun e w'' => e = .returned (.bool true) ∧ ∃ p : Regrown, w'' = Sort.grow (redrawn w5 p.d) p.os := fun d os => by
      have hb := rg d os
      have hs := hb.size
      have hw := hE5.trans (hb.mono (by omega))
      obtain ⟨e1, e2, e3, e4⟩ := HEF.out _ (hb.mono (by omega))
      exact Calls.regrown_of ((rsame_p l l KY KA cy kc _ wE.heap.size B (e4.wide (Nat.zero_le _) (Nat.le_refl _)) (HE.out.below (hw.mono hB)) (by omega) (by omega)).mono fun e w' ⟨h1, h2⟩ => ⟨by rw [h1, decide_eq_true rfl], h2⟩)
    have hcp : ∀ (d : Nat) (os : Array Obj), Calls Tryz.prog 21 #[.agg #[.slice (some ⟨gk, 0, none⟩) l.length ck], .agg #[.slice KA l.length kc]] (Sort.grow (redrawn w5 d) os) fun e w'' => e = .returned (.bool true) ∧ ∃ p : Regrown, w'' = Sort.grow (redrawn w5 p.d) p.os := fun d os => by
      have hb := rg d os
      have hs := hb.size
      have hw := hE5.trans (hb.mono (by omega))
      obtain ⟨e1, e2, e3, e4⟩ := HEF.out _ (hb.mono (by omega))
      exact Calls.regrown_of (kept_p l ⟨gk, 0, none⟩ ck KA kc _ wC.heap.size e2 e1 ((HE.out.below (hw.mono hB)).wide (Nat.le_refl _) (by omega)) (by omega))
    have b1' := fun d os => cell_regrown b1 d os
    have b2' := fun d os => cell_regrown b2 d os
    have b3' := fun d os => cell_regrown b3 d os
    have b4' := fun d os => cell_regrown b4 d os
    have b5' := fun d os => cell_regrown b5 d os
    have CS := Lib.hid hcs
    have CR := Lib.hid hcr
    have CT := Lib.hid hct
    have CK := Lib.hid hck
    have CX := Lib.hid hcx
    have CY := Lib.hid hcy
    have CP := Lib.hid hcp
    clear hcs hcr hct hck hcx hcy hcp b1 b2 b3 b4 b5 rg
    refine wp_region_quiet_below mixed8 (by kernel_rfl) ?_
    repeat (quiet_step (first
      | (with_reducible exact CS.out _ _)
      | (with_reducible exact CR.out _ _)
      | (with_reducible exact CT.out _ _)
      | (with_reducible exact CK.out _ _)
      | (with_reducible exact CX.out _ _)
      | (with_reducible exact CY.out _ _)
      | (with_reducible exact CP.out _ _)))
    refine wpQuiet_nil ?_
    intro _ hw'
    obtain ⟨⟨dq, osq⟩, hw''⟩ := hw'
    subst hw''
    have HB5 := Lib.hid (below_regrown w5 dq osq)
    generalize Sort.grow (redrawn w5 dq) osq = w6 at HB5 ⊢
    clear b1' b2' b3' b4' b5' CS CR CT CK CX CY CP
    have hz6 := HB5.out.size
    have d3 : w6.cell? ⟨wC.heap.size, 0, none⟩ = some (.slice (some ⟨gk, 0, none⟩) l.length ck) := cell_of_one ((HB5.out.block _ (by omega)).trans HK1.out)
    go_wp2_with (first
      | (go_at_call 22; refine (spoil_p l gk ck rs wB.heap.size wC.heap.size w6 (HLF.out w6 (HB5.out.mono (by omega))).1 (HLF.out w6 (HB5.out.mono (by omega))).2 hn).mono ?_; rintro e w7 ⟨⟨z7, rfl⟩, hs7⟩; have hsp := HSF.out w6 w7 (HB5.out.mono (by omega)) hs7; have HSP := Lib.hid hsp; have hz7 : w6.heap.size ≤ w7.heap.size := hs7.size; have d4 : w7.cell? ⟨wD.heap.size, 0, none⟩ = some (.slice KX l.length cx) := cell_of_one ((hsp.1 _ (by omega) (by omega)).trans HK2.out); have d1 : w7.cell? ⟨w.heap.size, 0, none⟩ = some (.slice KA l.length kc) := cell_of_one ((hsp.2.1 _ (by omega)).trans HP5.out.b1); have HX7 := Lib.hid (((HEF.out w5 (Below.refl _ _)).2.2.1.keep (w' := w7) (fun p h1 h2 => World.cell?_of_block (hsp.1 _ (by omega) (by omega)))).wide (Nat.zero_le _) (Nat.le_refl _)); clear hs7 hsp)
      | (go_at_call 20; refine (rsame_p l l KX KA cx kc w7 wD.heap.size B HX7.out (HE.out.below (HSP.out.2.2.mono hB)) (by omega) (by omega)).mono ?_; rintro e w8 ⟨rfl, hb8⟩; rw [decide_eq_true rfl]; have HB8 := Lib.hid hb8; have hz8 := hb8.size; have f4 : w8.cell? ⟨wD.heap.size, 0, none⟩ = some (.slice KX l.length cx) := cell_of_one ((hb8.block _ (by omega)).trans ((HSP.out.1 _ (by omega) (by omega)).trans HK2.out)); have f5 : w8.cell? ⟨wE.heap.size, 0, none⟩ = some (.slice KY l.length cy) := cell_of_one ((hb8.block _ (by omega)).trans ((HSP.out.1 _ (by omega) (by omega)).trans HK3.out)); have HT8 := Lib.hid (HTF.out w7 w8 HSP.out.1 (by omega) hb8); clear hb8)
      | (go_at_call 23; refine (apart_p l KX KY cx cy rx ry (wC.heap.size + 1) (wD.heap.size + 1) w8 HT8.out.1 HT8.out.2.1 (by omega) HT8.out.2.2 (by omega) hn).mono ?_; rintro e w9 ⟨rfl, hb9⟩; have HB9 := Lib.hid ((HSP.out.2.2.trans (HB8.out.mono (by omega))).trans (hb9.mono (by omega))); clear hb9)
      | (go_at_call 11; refine (HWK.out _ HB9.out).mono ?_; rintro e wZ ⟨rfl, hbZ⟩; have HBZ := Lib.hid (HB9.out.trans (hbZ.mono HB9.out.size)); clear hbZ))
    go_ret
    exact ⟨rfl, HBZ.out⟩
  · go_wp2_with (go_at_call 11; refine (HWK.out _ HPB.out.below).mono ?_; rintro e w6 ⟨rfl, hb6⟩; have HB6 := Lib.hid (HPB.out.below.trans (hb6.mono HPB.out.below.size)); clear hb6)
    go_ret
    exact ⟨rfl, HB6.out⟩
  · go_wp2_with (go_at_call 11; refine (HWK.out _ HPA.out.below).mono ?_; rintro e w6 ⟨rfl, hb6⟩; have HB6 := Lib.hid (HPA.out.below.trans (hb6.mono HPA.out.below.size)); clear hb6)
    go_ret
    exact ⟨rfl, HB6.out⟩
end Go.Proofs.YtiiadibbkijnhaaGreatDoor
