/-
  rosterlaw08.lent: an entry in rows of its own, marks behind its lists.
-/
import Derived.Test.YtiiadibbkijnhaaGreatDoorEntRows
import Derived.Test.YtiiadibbkijnhaaGreatDoorQS1
import Derived.Laws.ResultCell
import Derived.OwnWalk
import Derived.Deep.AppendLies
import Derived.Deep.RegionLaw
namespace Go.Proofs.YtiiadibbkijnhaaGreatDoor
open Go.RowKit Go.FltLaw Go.EntLaw Go.Lib Go.RankLaw

def blankA : Array Value := #[.string ⟨#[]⟩, .slice none 0 0]
theorem infoA : (Tryz.prog.info? 48).map (fun i => (i.zero, i.size, i.bytes)) = some (some (.agg blankA), 2, 40) := by kernel_rfl
theorem infoT : (Tryz.prog.info? 9).map (fun i => (i.zero, i.size, i.bytes)) = some (some (.string ⟨#[]⟩), 1, 16) := by kernel_rfl

theorem own_mono {w : World} {base base' : Nat} {e : TypeId} {size n : Nat} {v : Value} {xs : List Value} (h : w.ownsRow base e size v n xs) (hb : base' ≤ base) : w.ownsRow base' e size v n xs :=
  ⟨h.1, h.2.imp id fun ⟨g, cap, cur, h1, h2, h3⟩ => ⟨g, cap, cur, h1, Nat.le_trans hb h2, h3⟩⟩
/-- Where lent stands in its loop. -/
structure Lend8 (w wr : World) (KA : Option Addr) (kc : Nat) (l : List Atr) (j : Nat) (kv : Value) (rs : List Rw) : Prop where
  below : Below w.heap.size w wr
  eb : wr.heap[w.heap.size]? = some (.cells #[.slice KA l.length kc] 24 (0, 0))
  rb : wr.heap[w.heap.size + 1]? = some (.cells #[.slice none 0 0] 24 (0, 0))
  row : wr.ownsRow (w.heap.size + 2) 48 2 kv j (rowCells rs)
  rws : Rws wr 9 (w.heap.size + 2) [spareTxt, spareTxt] rs
  eq : rs.map (·.a) = l.take j
theorem Lend8.size {w wr : World} {KA : Option Addr} {kc : Nat} {l : List Atr} {j : Nat} {kv : Value} {rs : List Rw} (h : Lend8 w wr KA kc l j kv rs) : w.heap.size + 2 ≤ wr.heap.size := by
  have := (Array.getElem?_eq_some_iff.1 h.rb).1
  omega
theorem Lend8.start {w w2 : World} {KA : Option Addr} {kc : Nat} {l : List Atr} {v : Value} (ho : w2.ownsRow (w.heap.size + 2) 48 2 v 0 [])
    (hg : ((w.alloc (.cells #[.slice KA l.length kc] 24)).alloc (.cells #[.slice none 0 0] 24)).grownBy w2 none) : Lend8 w w2 KA kc l 0 v [] := by
  refine ⟨(((Below.refl _ w).alloc (Nat.le_refl _) _).alloc (by simp) _).grown hg (by simp; omega) (fun k e => by cases e), ?_, ?_, ho, Rws.nil _ _ _ _, rfl⟩
  · rw [hg.block _ (by simp; omega) (by simp)]; exact heap_alloc2_old w _ _
  · rw [hg.block _ (by simp) (by simp)]; exact heap_alloc2_new w _ _
theorem Lend8.step {w wr wa wb wc wd : World} {KA : Option Addr} {kc : Nat} {l : List Atr} {j : Nat} {kv v5 : Value} {rs : List Rw} {a : Atr} {o1 o2 : Obj} {va : Value} {g c gk ck : Nat} (h : Lend8 w wr KA kc l j kv rs) (ha : l[j]? = some a) (hs : Small a)
    (hgA : wr.grownBy wa none) (hgB : wa.grownBy wb va.ownBlock) (hva : ∀ b, va.ownBlock = some b → wr.heap.size ≤ b) (hgC : (wb.alloc o1).grownBy wc v5.ownBlock) (hv5 : ∀ b, v5.ownBlock = some b → wr.heap.size ≤ b)
    (hoC : wc.ownsRow wr.heap.size 9 1 (.slice (some ⟨g, 0, none⟩) (a.vs.length + 2) c) (a.vs.length + 2) (a.vs.map txt ++ [spareTxt, spareTxt])) (hgD : (wc.alloc o2).grownBy wd kv.ownBlock)
    (hoD : wd.ownsRow (w.heap.size + 2) 48 2 (.slice (some ⟨gk, 0, none⟩) (j + 1) ck) (j + 1) (rowCells rs ++ [txt a.ds, .slice (some ⟨g, 0, none⟩) a.vs.length c])) :
    Lend8 w wd KA kc l (j + 1) (.slice (some ⟨gk, 0, none⟩) (j + 1) ck) (rs ++ [⟨a, g, c⟩]) := by
  have hsz := h.size
  have s1 := hgA.size
  have s2 := hgB.size
  have s3 := hgC.size
  have s4 := hgD.size
  simp at s3 s4
  have hrb : ∀ b, kv.ownBlock = some b → w.heap.size + 2 ≤ b ∧ b < wr.heap.size := fun b e => h.row.lt b e
  have keep : ∀ b, b < wr.heap.size → (∀ b', kv.ownBlock = some b' → b ≠ b') → wd.heap[b]? = wr.heap[b]? := fun b hb hne => by
    rw [hgD.block b (by simp; omega) (fun e => hne b e.symm rfl), Below.heap_alloc _ _ _ (by omega), hgC.block b (by simp; omega) (fun e => by have := hv5 b e.symm; omega), Below.heap_alloc _ _ _ (by omega), hgB.block b (by omega) (fun e => by have := hva b e.symm; omega), hgA.block b (by omega) (by simp)]
  have hbl : Below w.heap.size wr wd := by
    refine (((((Below.refl _ wr).grown hgA (by omega) (fun k e => by cases e)).grown hgB (by omega) (fun k e => by have := hva k e; omega)).alloc (by omega) o1).grown hgC (by simp; omega) (fun k e => by have := hv5 k e; omega)).alloc (by omega) o2 |>.grown hgD (by simp; omega) (fun k e => by have := hrb k e; omega)
  have hgf := row_form hoC
  refine ⟨h.below.trans hbl, ?_, ?_, ?_, ?_, ?_⟩
  · rw [keep _ (by omega) (fun b' e => by have := hrb b' e; omega)]; exact h.eb
  · rw [keep _ (by omega) (fun b' e => by have := hrb b' e; omega)]; exact h.rb
  · rw [rowCells_snoc]; exact hoD
  · refine h.rws.snoc (r := ⟨a, g, c⟩) (fun r hr => ?_) ?_ hs hgf.1
    · obtain ⟨i, hi⟩ := List.getElem?_of_mem hr
      exact keep _ (h.rws.form hi).2.1 (fun b' e e' => h.rws.ne (ta := 48) hr (by decide) h.row (by rw [e, e']))
    · have hm : wc.ownsRow (w.heap.size + 2) 9 1 (.slice (some ⟨g, 0, none⟩) (a.vs.length + 2) c) (a.vs.length + 2) (a.vs.map txt ++ [spareTxt, spareTxt]) := own_mono hoC (by omega)
      refine (hm.alloc o2).kept hgD (.inr fun e => ?_)
      have := hrb g e.symm
      omega
  · rw [List.map_append, h.eq, List.take_add_one, ha]; rfl

/-- A lent entry. -/
structure Lent8 (w : World) (lo : Nat) (l : List Atr) (gk ck : Nat) (rs : List Rw) : Prop where
  row : w.ownsRow lo 48 2 (.slice (some ⟨gk, 0, none⟩) (l.length + 1) ck) (l.length + 1) (rowCells rs ++ [spareTxt, .slice none 0 0])
  rws : Rws w 9 lo [spareTxt, spareTxt] rs
  eq : rs.map (·.a) = l
theorem Lend8.fin {w wr wd : World} {KA : Option Addr} {kc : Nat} {l : List Atr} {kv : Value} {rs : List Rw} {o : Obj} {gk ck : Nat} {cs : Array Value} (h : Lend8 w wr KA kc l l.length kv rs)
    (ho : wd.ownsRow (w.heap.size + 2) 48 2 (.slice (some ⟨gk, 0, none⟩) (l.length + 1) ck) (l.length + 1) (rowCells rs ++ [.string ⟨#[115, 112, 97, 114, 101]⟩, .slice none 0 0])) (hg : (wr.alloc o).grownBy wd kv.ownBlock) : Lent8 (wd.setRow (w.heap.size + 1) cs) w.heap.size l gk ck rs := by
  have hsz := h.size
  have hh : ∀ b, w.heap.size + 2 ≤ b → (wd.setRow (w.heap.size + 1) cs).heap[b]? = wd.heap[b]? := fun b hb => setRow_other _ _ _ _ (by omega)
  refine ⟨own_mono (own_blocks ho hh) (by omega), ?_, by rw [h.eq, List.take_length]⟩
  have h1 : Rws (wd.setRow (w.heap.size + 1) cs) 9 (w.heap.size + 2) [spareTxt, spareTxt] rs := h.rws.keep fun r hr => by
    obtain ⟨i, hi⟩ := List.getElem?_of_mem hr
    have hf := h.rws.form hi
    rw [hh _ hf.1, hg.block _ (by simp; omega) (fun e => h.rws.ne (ta := 48) hr (by decide) h.row e.symm), Below.heap_alloc _ _ _ hf.2.1]
  exact ⟨fun i r hi => own_mono (h1.row i r hi) (by omega), h1.small, h1.rise⟩
theorem Lend8.finB {w wr wd : World} {KA : Option Addr} {kc : Nat} {l : List Atr} {kv : Value} {rs : List Rw} {o : Obj} {cs : Array Value} (h : Lend8 w wr KA kc l l.length kv rs) (hg : (wr.alloc o).grownBy wd kv.ownBlock) : Below w.heap.size w (wd.setRow (w.heap.size + 1) cs) := by
  have hsz := h.size
  refine (h.below.trans (((Below.refl _ wr).alloc (by omega) o).grown hg (by simp; omega) (fun k e => by have := h.row.lt k e; omega))).trans ⟨rfl, rfl, rfl, by simp, fun b hb => setRow_other _ _ _ _ (by omega)⟩
theorem spares2_new (w : World) (t : TypeId) : ∀ j u, [spareTxt, spareTxt][j]? = some u → (w.alloc (.cells #[.string ⟨#[115, 112, 97, 114, 101]⟩, .string ⟨#[115, 112, 97, 114, 101]⟩] t)).cell? ((⟨w.heap.size, 0, none⟩ : Addr).add j) = some u := news_new w #[.string ⟨#[115, 112, 97, 114, 101]⟩, .string ⟨#[115, 112, 97, 114, 101]⟩] t rfl
theorem pair_new (w : World) (x y : Value) (t : TypeId) : ∀ j u, [x, y][j]? = some u → (w.alloc (.cells #[x, y] t)).cell? ((⟨w.heap.size, 0, none⟩ : Addr).add j) = some u := news_new w #[x, y] t rfl

theorem fix_c {w : World} {B g c m : Nat} {e : TypeId} {xs ys : List Value} (h : w.ownsRow B e 1 (.slice (some ⟨g, 0, none⟩) (0 + m + 2) c) (0 + m + 2) (([] ++ xs) ++ ys)) : w.ownsRow B e 1 (.slice (some ⟨g, 0, none⟩) (m + 2) c) (m + 2) (xs ++ ys) := by
  simpa using h

set_option maxHeartbeats 3200000 in
set_option maxRecDepth 100000 in
theorem lent_p (l : List Atr) (KA : Option Addr) (kc : Nat) (w : World) (B : Nat) (hE : EAt w 0 B l KA kc) (hB : B ≤ w.heap.size) :
    Calls Tryz.prog 17 #[ent KA l.length kc] w fun e w' => ∃ gk ck rs, e = .returned (.agg #[.slice (some ⟨gk, 0, none⟩) l.length ck]) ∧ Lent8 w' w.heap.size l gk ck rs ∧ Below w.heap.size w w' := by
  have H := Lib.hid hE
  have hn := hE.n1
  clear hE
  obtain ⟨i0, hi, hz0, hz1, hz2⟩ := info_parts infoA
  obtain ⟨j0, hjT, hy0, hy1, hy2⟩ := info_parts infoT
  go_enter Tryz.func17, Tryz.ntmps17
  go_wp2_with (refine wpList_make_own _ rfl (.const (.int .i64 0)) (.tmp 9) 22 rfl (w.heap.size + 2) 48 i0 _ 2 Tryz.underlying22 hi hz0 hz1 .i64 .i64 ((l.length : Int) + 1) (l.length + 1) rfl rfl (by simp) (by rw [hz2]; omega) (by unfold maxLen; omega) (by simp) ?_; intro w7 ho7 hg7; have HS := Lib.hid (Lend8.start (v := .slice (some ⟨w.heap.size + 1 + 1, 0, none⟩) 0 (l.length + 1)) (by simpa using ho7) hg7); have c1 : w7.cell? ⟨w.heap.size, 0, none⟩ = some (.slice KA l.length kc) := cell_of_one HS.out.eb; clear ho7 hg7)
  go_loopw [3, 14] (fun kv i wr => ∃ (j : Nat) (rs : List Rw), j ≤ l.length ∧ i = .int .i64 j ∧ Lend8 w wr KA kc l j kv rs) (fun _ i _ => l.length - (RowKit.intOf i).toNat)
  case atStart => exact ⟨0, [], Nat.zero_le _, rfl, HS.out⟩
  case round =>
    clear c1
    obtain ⟨j, rs, hj, rfl, hL⟩ := hrel
    have HL := Lib.hid hL
    have hsz := hL.size
    have hbw := hL.below
    by_cases hlt : j < l.length
    · obtain ⟨ad, rfl, _, hadB, hel⟩ := H.out.at_ (by omega)
      have hk := List.getElem?_eq_getElem hlt
      generalize l[j] = q at hk
      obtain ⟨hd0, A, c, hv, e0, e1⟩ := hel j q hk
      have HSM := Lib.hid (⟨hd0, hv.n1, hv.m1⟩ : Small q)
      have HK := Lib.hid hk
      have hvn := hv.n1
      have HV := Lib.hid hv
      have hget : ∀ wX, Below w.heap.size w wX → wX.cell? (ad.add (j * 2)) = some (.string ⟨q.ds.toArray⟩) ∧ wX.cell? ⟨(ad.add (j * 2)).block, (ad.add (j * 2)).off + 1, none⟩ = some (.slice A q.vs.length c) := fun wX hb => two_at (((hb.mono hB).cell (p := ad.add (j * 2)) (by rw [RankLaw.add_block]; exact hadB)).trans e0) (((hb.mono hB).cell (p := ad.add (j * 2 + 1)) (by rw [RankLaw.add_block]; exact hadB)).trans e1)
      have HG := Lib.hid hget
      have c0 := cell_of_one hL.eb
      obtain ⟨m0, m1⟩ := hget _ hbw
      have hrb : ∀ b, u3.ownBlock = some b → w.heap.size + 2 ≤ b ∧ b < wr.heap.size := fun b e => hL.row.lt b e
      have HRB := Lib.hid hrb
      have HROW := Lib.hid hL.row
      have HEB := Lib.hid hL.eb
      have HBW := Lib.hid hbw
      clear hel hd0 hv e0 e1 hget hk hL hrb hbw
      go_upto_region 6 with (refine wpList_make_own _ rfl (.const (.int .i64 0)) (.tmp 24) 46 rfl wr.heap.size 9 j0 _ 1 Tryz.underlying46 hjT hy0 hy1 .i64 .i64 ((q.vs.length : Int) + 2) (q.vs.length + 2) rfl rfl (by simp) (by rw [hy2]; omega) (by unfold maxLen; omega) (Nat.le_refl _) ?_; intro wa hoA hgA; have hsA := hgA.size; have HOA := Lib.hid hoA; have HGA := Lib.hid hgA; have HBA := Lib.hid (HBW.out.grown hgA (by omega) (fun k e => by cases e)); have hca : wa.cell? ⟨w.heap.size, 0, none⟩ = some (.slice (some ad) l.length kc) := cell_of_one ((hgA.block _ (by omega) (by simp)).trans HEB.out); have HCA := Lib.hid ((hgA.block w.heap.size (by omega) (by simp)).trans HEB.out); obtain ⟨ma0, ma1⟩ := HG.out _ HBA.out; clear hoA hgA m0 m1 c0)
      have hrd := rd_txts (HV.out.below (HBA.out.mono hB)).at_
      have HRD := Lib.hid hrd
      clear hrd
      go_upto_region 7 with (at_builtin; refine wpList_append_rd _ rfl (.tmp 26) (.tmp 32) _ rfl wr.heap.size 9 j0 _ 16 Tryz.underlying46 hjT hy0 hy1 hy2 rfl (.slice (some ⟨wr.heap.size, 0, none⟩) 0 (q.vs.length + 2)) 0 [] rfl HOA.out B A q.vs.length c _ rfl HRD.out (txts_one q.vs) (by unfold maxLen; omega) (by omega) hsA ?_; intro v5 wb hoB hgB hatB; have hsB := hgB.size; have HOB := Lib.hid hoB; have HGB := Lib.hid hgB; have hv5 : ∀ b, v5.ownBlock = some b → wr.heap.size ≤ b := (fun b e => (hoB.lt b e).1); have HV5 := Lib.hid hv5; have HBB := Lib.hid (HBA.out.grown hgB (by omega) (fun k e => by simp [Value.ownBlock] at e; omega)); have HCB := Lib.hid ((hgB.block w.heap.size (by omega) (fun e => by simp [Value.ownBlock] at e; omega)).trans HCA.out); clear hoB hgB hatB hv5 ma0 ma1 hca)
      go_upto_region 8 with (at_builtin; refine wpList_append_lies _ rfl (.tmp 34) (.tmp 35) _ rfl wr.heap.size 9 j0 _ 1 16 Tryz.underlying46 hjT hy0 hy1 hy2 rfl (by decide) v5 (0 + q.vs.length) ([] ++ q.vs.map txt) rfl (HOB.out.alloc _) ⟨wb.heap.size, 0, none⟩ 2 2 [spareTxt, spareTxt] rfl rfl (spares2_new wb _) (by simp [spareTxt, txt, Value.oneCell']) (by decide) (by unfold maxLen; omega) (by omega) (by simp; omega) _ rfl ?_; intro g cv wc hoC hgC hatC hltC; have hsC := hgC.size; have hoC' := fix_c hoC; have HOC := Lib.hid hoC'; have hcv := (row_form hoC').2.2.1; have hcm := (row_form hoC').2.2.2; unfold maxLen at hcm; have HGC := Lib.hid hgC; have HBR := Lib.hid ((((((Below.refl wr.heap.size wr).grown HGA.out (Nat.le_refl _) (fun k e => by cases e)).grown HGB.out hsA (fun k e => by simp [Value.ownBlock] at e; omega)).alloc (by omega) _).grown hgC (by simp; omega) (fun k e => HV5.out k e))); have HBC := Lib.hid ((HBB.out.alloc (by omega) _).grown hgC (by simp; omega) (fun k e => by have := HV5.out k e; omega)); have hcc : wc.cell? ⟨w.heap.size, 0, none⟩ = some (.slice (some ad) l.length kc) := cell_of_one ((hgC.block w.heap.size (by simp; omega) (fun e => by have := HV5.out _ e.symm; omega)).trans ((Below.heap_alloc _ _ _ (by omega)).trans HCB.out)); obtain ⟨mc0, mc1⟩ := HG.out _ HBC.out; simp at hsC; clear hoC hgC hatC hoC')
      have hRow := own_later HROW.out HBR.out
      have HR := Lib.hid hRow
      clear hRow
      have hq2 : (q.vs.length : Int) ≤ (cv : Int) := by omega
      go_region_law (refine step_append_lies _ (by rfl) _ _ _ (by rfl) (w.heap.size + 2) 48 i0 _ 2 40 Tryz.underlying22 hi hz0 hz1 hz2 rfl (by omega) u3 j (rowCells rs) (by rfl) (HR.out.alloc _) ⟨wc.heap.size, 0, none⟩ 1 1 [.string ⟨q.ds.toArray⟩, .slice (some ⟨g, 0, none⟩) q.vs.length cv] (by rfl) (by rfl) (pair_new wc _ _ _) (by simp [Value.oneCell']) (by omega) (by unfold maxLen; omega) (by omega) (by simp; omega) (wc.heap.size + 1) (by simp) ?_; intro gk ck wd hoD hgD hatD hltD; have HOD := Lib.hid hoD; have HGD := Lib.hid hgD; clear hoD hgD hatD)
      all_goals
        go_wp2_with fail
        go_round
        case rel => exact ⟨j + 1, _, by omega, by go_num, HL.out.step (va := .slice (some ⟨wr.heap.size, 0, none⟩) 0 (q.vs.length + 2)) (o2 := .cells #[.string ⟨q.ds.toArray⟩, .slice (some ⟨g, 0, none⟩) q.vs.length cv] 48) HK.out HSM.out HGA.out HGB.out (fun b e => by simp [Value.ownBlock] at e; omega) HGC.out HV5.out HOC.out ⟨HGD.out.os, HGD.out.tape, HGD.out.output, HGD.out.size, HGD.out.block⟩ HOD.out⟩
        case measure => simp [RowKit.intOf]; omega
    · have ej : j = l.length := by omega
      subst ej
      have c0 := cell_of_one hL.eb
      have hrb : ∀ b, u3.ownBlock = some b → w.heap.size + 2 ≤ b ∧ b < wr.heap.size := fun b e => hL.row.lt b e
      have HRB := Lib.hid hrb
      have HROW := Lib.hid hL.row
      clear hL hrb hbw
      go_upto_region 11 with (at_builtin; refine wpList_append_lies _ rfl (.tmp 57) (.tmp 59) _ rfl (w.heap.size + 2) 48 i0 _ 2 40 Tryz.underlying22 hi hz0 hz1 hz2 rfl (by decide) u3 l.length (rowCells rs) rfl (HROW.out.alloc _) ⟨wr.heap.size, 0, none⟩ 1 1 [.string ⟨#[115, 112, 97, 114, 101]⟩, .slice none 0 0] rfl rfl (pair_new wr _ _ _) (by simp [Value.oneCell']) (by decide) (by unfold maxLen; omega) (by omega) (by simp; omega) _ rfl ?_; intro gk ck wd hoD hgD hatD hltD; have HOD := Lib.hid hoD; have hfk := row_form hoD; have hcd : wd.cell? ⟨w.heap.size, 0, none⟩ = some (.slice KA l.length kc) := cell_of_one ((hgD.block w.heap.size (by simp; omega) (fun e => by have := HRB.out _ e.symm; omega)).trans ((Below.heap_alloc _ _ _ (by omega)).trans HL.out.eb)); have HCD := Lib.hid ((hgD.block (w.heap.size + 1) (by simp; omega) (fun e => by have := HRB.out _ e.symm; omega)).trans ((Below.heap_alloc _ _ _ (by omega)).trans HL.out.rb)); have HGD := Lib.hid hgD; clear hoD hgD hatD c0)
      have hk2 : (l.length : Int) ≤ (ck : Int) := by have := hfk.2.2.1; omega
      have hk3 := hfk.2.2.2
      unfold maxLen at hk3
      go_wp2_with (refine wpList_store_row rfl 24 (.tmp 2) (.tmp 66) rfl (w.heap.size + 1) #[.slice (some ⟨gk, 0, none⟩) l.length ck] rfl rfl 24 #[.slice none 0 0] HCD.out (by kernel_rfl) rfl (by simp [Value.oneCell']) ?_)
      (try simp only [Exit.inBlock, Exit.then])
      refine bodyPost_ret (results_cell_row rfl _ _ (w.heap.size + 1) 24 _ (0, 0) _ rfl (setRow_heap _ _ _ _ _ _ HCD.out) Tryz.underlying24 rfl (by kernel_rfl)) rfl ?_
      exact ⟨gk, ck, rs, rfl, HL.out.fin HOD.out HGD.out, HL.out.finB HGD.out⟩
end Go.Proofs.YtiiadibbkijnhaaGreatDoor
