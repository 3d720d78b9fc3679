/-
  rosterlaw08.apart: two twins whose lists lie apart.
-/
import Derived.Test.YtiiadibbkijnhaaGreatDoorQS3
import Derived.Test.YtiiadibbkijnhaaGreatDoorEntKept
import Derived.Deep.RegionLaw
namespace Go.Proofs.YtiiadibbkijnhaaGreatDoor
open Go.RowKit Go.FltLaw Go.EntLaw Go.Lib Go.RankLaw

/-- The lists of values are brought together. -/
structure Coll8 (w wr : World) (u u' : Value) (R : List Rw) (t : Nat) (kv : Value) : Prop where
  pair : Pair8 w wr u u'
  row : wr.ownsRow (w.heap.size + 2) 46 1 kv t ((R.take t).map sl)
theorem Coll8.start (w : World) (u u' : Value) (R : List Rw) : Coll8 w (((w.alloc (.cells #[u] 24)).alloc (.cells #[u'] 24)).alloc (.cells #[] 46)) u u' R 0 (.slice (some ⟨w.heap.size + 1 + 1, 0, none⟩) 0 0) := by
  refine ⟨(Pair8.start w u u').later ((Below.refl _ _).alloc (by simp) _), ?_⟩
  have := World.ownsRow_lit (base := w.heap.size + 2) (e := 46) (size := 1) ((w.alloc (.cells #[u] 24)).alloc (.cells #[u'] 24)) #[] 0 (by simp) (by simp [maxLen]) rfl
  simpa using this
theorem Coll8.step {w wr w4 : World} {u u' : Value} {R : List Rw} {t : Nat} {kv kv' : Value} {r : Rw} {o : Obj} (h : Coll8 w wr u u' R t kv) (hr : R[t]? = some r) (hg : (wr.alloc o).grownBy w4 kv.ownBlock) (ho : w4.ownsRow (w.heap.size + 2) 46 1 kv' (t + 1) ((R.take t).map sl ++ [sl r])) : Coll8 w w4 u u' R (t + 1) kv' := by
  have hs := h.pair.size
  refine ⟨h.pair.later (((Below.refl _ wr).alloc (by omega) o).grown hg (by simp; omega) (fun k e => by have := h.row.lt k e; omega)), ?_⟩
  have e : (R.take (t + 1)).map sl = (R.take t).map sl ++ [sl r] := by
    rw [List.take_add_one, hr]; simp
  rw [e]
  exact ho
theorem one_new (w : World) (x : Value) (t : TypeId) : ∀ j u, [x][j]? = some u → (w.alloc (.cells #[x] t)).cell? ((⟨w.heap.size, 0, none⟩ : Addr).add j) = some u := news_new w #[x] t rfl

theorem Mark8.cellL {w wr : World} {lo base : Nat} {R : List Rw} {gl cl i k j : Nat} {r : Rw} (h : Mark8 w wr lo base R (.slice (some ⟨gl, 0, none⟩) R.length cl) i k) (hr : R[j]? = some r) : wr.cell? ⟨gl, j, none⟩ = some (.slice (some ⟨r.g, 0, none⟩) r.a.vs.length r.c) := by
  refine row_cell h.lrow ?_
  rw [List.getElem?_map, hr]; rfl
theorem Mark8.cellV {w wr : World} {lo base : Nat} {R : List Rw} {kv : Value} {i k j q : Nat} {r : Rw} (h : Mark8 w wr lo base R kv i k) (hr : R[j]? = some r) (hq : q < r.a.vs.length) : (∃ z, wr.cell? ⟨r.g, q, none⟩ = some z) ∧ wr.frozen? ⟨r.g, q, none⟩ = false := by
  obtain ⟨zs, hz, _⟩ := h.rows j r hr
  refine ⟨⟨zs[q]'(by rw [hz.1]; omega), ?_⟩, hz.frozenAt _⟩
  rw [hz.cellAt _ (by omega), List.getElem?_eq_getElem (by rw [hz.1]; omega)]
theorem Mark8.drew1 {w wr : World} {lo base : Nat} {R : List Rw} {kv : Value} {i k : Nat} (h : Mark8 w wr lo base R kv i k) : Mark8 w wr.drew lo base R kv i k := ⟨⟨h.below.os, h.below.tape, h.below.output, h.below.size, h.below.block⟩, h.lrow, h.rows⟩
theorem text_self (s : ByteArray) : (s != s) = false := by
  obtain ⟨d⟩ := s
  show (!(d == d)) = false
  simp
theorem below_le {lo : Nat} {w wr : World} (h : Below lo w wr) (hl : lo ≤ w.heap.size) : lo ≤ wr.heap.size := Nat.le_trans hl h.size

set_option maxHeartbeats 6400000 in
set_option maxRecDepth 100000 in
theorem apart_p (l : List Atr) (KA KB : Option Addr) (ca cb : Nat) (rs rs' : List Rw) (lo lo' : Nat) (w : World) (hA : TwinR w lo l KA ca rs) (hB : TwinR w lo' l KB cb rs') (hlo : lo ≤ lo') (hg : ∀ r : Rw, r ∈ rs → r.g < lo') (hlw : lo ≤ w.heap.size) (hn : l.length * 40 ≤ 140737488351232) :
    Calls Tryz.prog 23 #[ent KA l.length ca, ent KB l.length cb] w fun e w' => e = .returned (.bool true) ∧ Below lo w w' := by
  have hla : rs.length = l.length := by rw [← hA.eq]; simp
  have hlb : rs'.length = l.length := by rw [← hB.eq]; simp
  have hRW := rws_two hA.rws hB.rws hlo hg
  have HRW := Lib.hid hRW
  have hRl : l.length + l.length = (rs ++ rs').length := by simp; omega
  have hRa : ∀ j, j < l.length → (rs ++ rs')[j]? = rs[j]? := fun j hj => List.getElem?_append_left (by omega)
  have hRb : ∀ j, (rs ++ rs')[l.length + j]? = rs'[j]? := fun j => by rw [List.getElem?_append_right (by omega)]; congr 1; omega
  have HA := Lib.hid hA
  have HB := Lib.hid hB
  have HRA := Lib.hid hRa
  have HRB := Lib.hid hRb
  have HS := Lib.hid (Coll8.start w (.slice KA l.length ca) (.slice KB l.length cb) (rs ++ rs'))
  obtain ⟨i0, hi, hz0, hz1, hz2⟩ := info_parts infoV
  obtain ⟨j0, hjT, hy0, hy1, hy2⟩ := info_parts infoT
  clear hA hB hRW hRa hRb hg
  generalize rs ++ rs' = R at HRW hRl HRA HRB HS
  go_enter Tryz.func23, Tryz.ntmps23
  go_wp2_with fail
  go_loopw [5, 19] (fun kv i wr => ∃ (j : Nat), j ≤ l.length ∧ i = .int .i64 j ∧ Coll8 w wr (.slice KA l.length ca) (.slice KB l.length cb) R j kv) (fun _ i _ => l.length - (RowKit.intOf i).toNat)
  case atStart => exact ⟨0, Nat.zero_le _, rfl, HS.out⟩
  case round =>
    obtain ⟨j, hj, rfl, hC⟩ := hrel
    have HC := Lib.hid hC
    have hsz := hC.pair.size
    obtain ⟨c0, c1⟩ := hC.pair.cells
    by_cases hlt : j < l.length
    · obtain ⟨gk, ca', e, _, hgk⟩ := HA.out.row.form (by omega)
      simp only [Value.slice.injEq, true_and] at e
      obtain ⟨rfl, rfl⟩ := e
      have hr := List.getElem?_eq_getElem (l := rs) (i := j) (by omega)
      generalize rs[j]'(by omega) = r at hr
      have c2 : wr.cell? ⟨gk, j * 2 + 1, none⟩ = some (.slice (some ⟨r.g, 0, none⟩) r.a.vs.length r.c) := (hC.pair.below.cell (p := ⟨gk, j * 2 + 1, none⟩) hgk).trans (row_cell HA.out.row (rowCells_at hr).2)
      have HR := Lib.hid ((HRA.out j hlt).trans hr)
      have HROW := Lib.hid hC.row
      clear hC hr
      go_wp2_with (at_builtin; refine wpList_append_own_wide _ rfl (.tmp 22) (.tmp 29) _ rfl (w.heap.size + 2) 46 i0 _ 1 24 Tryz.underlying100 hi hz0 hz1 hz2 rfl (by decide) u5 j ((R.take j).map sl) rfl (HROW.out.alloc _) ⟨wr.heap.size, 0, none⟩ 1 1 [.slice (some ⟨r.g, 0, none⟩) r.a.vs.length r.c] rfl rfl (one_new wr _ _) (by simp [Value.oneCell']) (by unfold maxLen; omega) (by omega) (by simp; omega) ?_; intro v4 w4 ho4 hg4 _; have HO4 := Lib.hid ho4; have HG4 := Lib.hid hg4; clear ho4 hg4)
      go_round
      case rel => exact ⟨j + 1, by omega, by go_num, HC.out.step HR.out HG4.out HO4.out⟩
      case measure => simp [RowKit.intOf]; omega
    · have ej : j = l.length := by omega
      subst ej
      clear hC
      go_wp2_with fail
      go_loopw [5, 35] (fun kv i wr => ∃ (j : Nat), j ≤ l.length ∧ i = .int .i64 j ∧ Coll8 w wr (.slice KA l.length ca) (.slice KB l.length cb) R (l.length + j) kv) (fun _ i _ => l.length - (RowKit.intOf i).toNat)
      case atStart => exact ⟨0, Nat.zero_le _, rfl, HC.out⟩
      case round =>
        clear HC c0 c1 hsz
        obtain ⟨j, hj, rfl, hC⟩ := hrel
        have HC := Lib.hid hC
        have hsz := hC.pair.size
        obtain ⟨c0, c1⟩ := hC.pair.cells
        by_cases hlt : j < l.length
        · obtain ⟨gk, ca', e, _, hgk⟩ := HB.out.row.form (by omega)
          simp only [Value.slice.injEq, true_and] at e
          obtain ⟨rfl, rfl⟩ := e
          have hr := List.getElem?_eq_getElem (l := rs') (i := j) (by omega)
          generalize rs'[j]'(by omega) = r at hr
          have c2 : wr.cell? ⟨gk, j * 2 + 1, none⟩ = some (.slice (some ⟨r.g, 0, none⟩) r.a.vs.length r.c) := (hC.pair.below.cell (p := ⟨gk, j * 2 + 1, none⟩) hgk).trans (row_cell HB.out.row (rowCells_at hr).2)
          have HR := Lib.hid ((HRB.out j).trans hr)
          have HROW := Lib.hid hC.row
          clear hC hr
          go_wp2_with (at_builtin; refine wpList_append_own_wide _ rfl (.tmp 38) (.tmp 45) _ rfl (w.heap.size + 2) 46 i0 _ 1 24 Tryz.underlying100 hi hz0 hz1 hz2 rfl (by decide) u5 (l.length + j) ((R.take (l.length + j)).map sl) rfl (HROW.out.alloc _) ⟨wr.heap.size, 0, none⟩ 1 1 [.slice (some ⟨r.g, 0, none⟩) r.a.vs.length r.c] rfl rfl (one_new wr _ _) (by simp [Value.oneCell']) (by unfold maxLen; omega) (by omega) (by simp; omega) ?_; intro v4 w4 ho4 hg4 _; have HO4 := Lib.hid ho4; have HG4 := Lib.hid hg4; clear ho4 hg4)
          go_round
          case rel => exact ⟨j + 1, by omega, by go_num, HC.out.step HR.out HG4.out HO4.out⟩
          case measure => simp [RowKit.intOf]; omega
        · have ej : j = l.length := by omega
          subst ej
          clear c0 c1
          have hrow := hC.row
          rw [hRl, List.take_length] at hrow
          obtain ⟨A5, c5, rfl, hc5⟩ := own_sl hrow
          have hM := Mark8.start (lo := lo) (base := w.heap.size + 2) (hC.pair.below.mono hlw) hrow (HRW.out.below hC.pair.below)
          have HM := Lib.hid hM
          have HCB := Lib.hid hC.pair.below
          clear hC hrow HC hM
          go_wp2_with fail
          go_loopw [50] (fun i wr => ∃ (j : Nat), j ≤ R.length ∧ i = .int .i64 j ∧ Mark8 w wr lo (w.heap.size + 2) R (.slice A5 R.length c5) j 0) (fun i _ => R.length - (RowKit.intOf i).toNat)
          case atStart => exact ⟨0, Nat.zero_le _, rfl, HM.out⟩
          case round =>
            clear HM hsz
            obtain ⟨j, hj, rfl, hM⟩ := hrel
            have HM := Lib.hid hM
            by_cases hlt : j < R.length
            · obtain ⟨gl, cl, e, _, hgl⟩ := hM.lrow.form (by omega)
              simp only [Value.slice.injEq, true_and] at e
              obtain ⟨rfl, rfl⟩ := e
              have hr := List.getElem?_eq_getElem hlt
              generalize R[j] = r at hr
              have hvn := (HRW.out.small r (List.mem_of_getElem? hr)).vn
              have c0 := hM.cellL hr
              have HR := Lib.hid hr
              clear hM hr
              go_wp2_with fail
              go_loopw [58] (fun i wr => ∃ (k : Nat), k ≤ r.a.vs.length ∧ i = .int .i64 k ∧ Mark8 w wr lo (w.heap.size + 2) R (.slice (some ⟨gl, 0, none⟩) R.length c5) j k) (fun i _ => r.a.vs.length - (RowKit.intOf i).toNat)
              case atStart => exact ⟨0, Nat.zero_le _, rfl, HM.out⟩
              case round =>
                clear HM c0
                obtain ⟨k, hk, rfl, hM⟩ := hrel
                have HM := Lib.hid hM
                by_cases hklt : k < r.a.vs.length
                · have c0 := hM.cellL HR.out
                  obtain ⟨⟨z, v1⟩, v2⟩ := hM.cellV HR.out hklt
                  clear hM
                  have hws : lo ≤ wr.heap.size := below_le HM.out.below hlw
                  go_wp2_with fail
                  go_region_law (go_simp; go_at_call 45; (with_reducible refine (mark_p j (by omega) _).mono ?_); rintro e w2 ⟨rfl, rfl⟩; dsimp only)
                  all_goals
                    go_wp2_with fail
                    go_round
                    case rel => exact ⟨k + 1, by omega, by go_num, (HM.out.step HRW.out.rise HR.out hws hklt).drew1⟩
                    case measure => simp [RowKit.intOf]; omega
                · have ek : k = r.a.vs.length := by omega
                  subst ek
                  clear hM
                  go_wp2_with fail
                  go_round
                  case rel => exact ⟨j + 1, by omega, by go_num, HM.out.next HR.out (Nat.le_refl _)⟩
                  case measure => simp [RowKit.intOf]; omega
            · have ej : j = R.length := by omega
              subst ej
              obtain ⟨w3, rfl⟩ : ∃ w3, w3 = wr := ⟨wr, rfl⟩
              have HG := Lib.hid (Grow8.start (b2 := w3.heap.size) hM.below hM.lrow (fun t r ht => hM.all ht))
              have HL8 := Lib.hid (⟨HRW.out.rise, fun i r hi => ⟨(HRW.out.form hi).1, (HRW.out.form hi).2.1⟩, fun b hb => (hM.lrow.lt b hb).2⟩ : Lists8 w lo w3.heap.size R (.slice A5 R.length c5))
              have hw3 : w.heap.size ≤ w3.heap.size := hM.below.size
              have hl3 : lo ≤ w3.heap.size := below_le hM.below hlw
              clear hM HM
              go_wp2_with fail
              go_loopw [10, 73] (fun mv i wr => ∃ (j : Nat) (mvs : List Value), j ≤ R.length ∧ i = .int .i64 j ∧ Grow8 w wr lo (w.heap.size + 2) w3.heap.size R (.slice A5 R.length c5) j mv mvs ∧ w3.heap.size ≤ wr.heap.size) (fun _ i _ => R.length - (RowKit.intOf i).toNat)
              case atStart => exact ⟨0, _, Nat.zero_le _, rfl, HG.out, Nat.le_refl _⟩
              case round =>
                clear HG
                obtain ⟨j, mvs, hj, rfl, hG, hs3⟩ := hrel
                obtain ⟨wi, rfl⟩ : ∃ wi, wi = wr := ⟨wr, rfl⟩
                have HG := Lib.hid hG
                by_cases hlt : j < R.length
                · obtain ⟨gl, cl, e, _, hgl⟩ := hG.lrow.form (by omega)
                  simp only [Value.slice.injEq, true_and] at e
                  obtain ⟨rfl, rfl⟩ := e
                  have hr := List.getElem?_eq_getElem hlt
                  generalize R[j] = r at hr
                  have hvn := (HRW.out.small r (List.mem_of_getElem? hr)).vn
                  have c0 : wi.cell? ⟨gl, j, none⟩ = some (.slice (some ⟨r.g, 0, none⟩) r.a.vs.length r.c) := row_cell hG.lrow (by rw [List.getElem?_map, hr]; rfl)
                  have HI := Lib.hid (In8.start hG hr)
                  have hrg := HL8.out.rg j r hr
                  have HR := Lib.hid hr
                  clear hG hr
                  go_wp2_with fail
                  go_loopw [12, 80] (fun v i wr => ∃ (q : Nat), q ≤ 20 ∧ i = .int .i64 q ∧ In8 wi wr lo r j q v) (fun _ i _ => 20 - (RowKit.intOf i).toNat)
                  case atStart => exact ⟨0, by omega, rfl, HI.out⟩
                  case round =>
                    clear HI c0
                    obtain ⟨q, hq, rfl, hI⟩ := hrel
                    have HI := Lib.hid hI
                    obtain ⟨b, cc, rfl, hob, hbb⟩ := hI.cur
                    have hfs := hI.far.size
                    obtain ⟨f1, f2, f3, f4⟩ := row_form hob
                    have HOB := Lib.hid hob
                    clear hI hob
                    by_cases hlt2 : q < 20
                    · go_wp2_with (first
                        | (go_at_call 45; (with_reducible refine (mark_p j (by omega) _).mono ?_); rintro e w2 ⟨rfl, hw2⟩; subst w2)
                        | (at_builtin; refine wpList_append_two rfl (.tmp 82) (.tmp 85) _ rfl lo 9 j0 _ 1 16 Tryz.underlying46 hjT hy0 hy1 hy2 rfl b cc (r.a.vs.length + q) (List.replicate (r.a.vs.length + q) (mrk j)) rfl (HOB.out.alloc _) ⟨wr.heap.size, 0, none⟩ 1 1 [.string (marks j)] rfl rfl (one_new wr _ _) (by simp [Value.oneCell']) (by unfold maxLen; omega) (by omega) (by simp; omega) ?_; intro g4 c4 w4 ho4 hg4; have HO4 := Lib.hid ho4; have HG4 := Lib.hid hg4; clear ho4 hg4))
                      go_round
                      case rel => exact ⟨q + 1, by omega, by go_num, HI.out.step (by have := hrg.2; omega) (by omega) rfl HO4.out HG4.out⟩
                      case measure => simp [RowKit.intOf]; omega
                    · have eq : q = 20 := by omega
                      subst eq
                      have HMR := Lib.hid (HI.out.mrow HG.out HR.out)
                      clear HOB
                      go_wp2_with (at_builtin; refine wpList_append_own_wide _ rfl (.tmp 88) (.tmp 90) _ rfl w3.heap.size 46 i0 _ 1 24 Tryz.underlying100 hi hz0 hz1 hz2 rfl (by decide) u10 j mvs rfl (HMR.out.alloc _) ⟨wr.heap.size, 0, none⟩ 1 1 [.slice (some ⟨b, 0, none⟩) (r.a.vs.length + 20) cc] rfl rfl (one_new wr _ _) (by simp [Value.oneCell']) (by unfold maxLen; omega) (by omega) (by simp; omega) ?_; intro v5 w5 ho5 hg5 _; have HO5 := Lib.hid ho5; have hs5 := hg5.size; simp at hs5; have HG5 := Lib.hid hg5; clear ho5 hg5)
                      go_round
                      case rel => exact ⟨j + 1, _, by omega, by go_num, HG.out.next HL8.out (by omega) hlw hs3 hl3 HR.out HI.out HG5.out HO5.out, by omega⟩
                      case measure => simp [RowKit.intOf]; omega
                · have ej : j = R.length := by omega
                  subst ej
                  clear hG
                  go_wp2_with fail
                  go_loopw [95] (fun i wr => ∃ (j : Nat), j ≤ R.length ∧ i = .int .i64 j ∧ Grow8 w wr lo (w.heap.size + 2) w3.heap.size R (.slice A5 R.length c5) R.length u10 mvs) (fun i _ => R.length - (RowKit.intOf i).toNat)
                  case atStart => exact ⟨0, Nat.zero_le _, rfl, HG.out⟩
                  case round =>
                    clear HG
                    obtain ⟨j, hj, rfl, hG⟩ := hrel
                    have HG := Lib.hid hG
                    by_cases hlt2 : j < R.length
                    · obtain ⟨gl, cl, e, _, hgl⟩ := hG.lrow.form (by omega)
                      simp only [Value.slice.injEq, true_and] at e
                      obtain ⟨rfl, rfl⟩ := e
                      obtain ⟨gm, cm, rfl, _, hgm⟩ := hG.mrow.form (by omega)
                      have hr := List.getElem?_eq_getElem hlt2
                      generalize R[j] = r at hr
                      have hvn := (HRW.out.small r (List.mem_of_getElem? hr)).vn
                      have c0 : wr.cell? ⟨gl, j, none⟩ = some (.slice (some ⟨r.g, 0, none⟩) r.a.vs.length r.c) := row_cell hG.lrow (by rw [List.getElem?_map, hr]; rfl)
                      obtain ⟨b, cc, hmv, _, _, hbc⟩ := hG.new j r hlt2 hr
                      have c1 : wr.cell? ⟨gm, j, none⟩ = some (.slice (some ⟨b, 0, none⟩) (r.a.vs.length + 20) cc) := row_cell hG.mrow hmv
                      have HR := Lib.hid hr
                      have HMV := Lib.hid hmv
                      clear hG hr hmv hbc
                      go_wp2_with fail
                      go_loopw [103] (fun i wr => ∃ (k : Nat), k ≤ r.a.vs.length + 20 ∧ i = .int .i64 k ∧ Grow8 w wr lo (w.heap.size + 2) w3.heap.size R (.slice (some ⟨gl, 0, none⟩) R.length c5) R.length (.slice (some ⟨gm, 0, none⟩) R.length cm) mvs) (fun i _ => r.a.vs.length + 20 - (RowKit.intOf i).toNat)
                      case atStart => exact ⟨0, Nat.zero_le _, rfl, HG.out⟩
                      case round =>
                        clear HG c0 c1
                        obtain ⟨k, hk, rfl, hG⟩ := hrel
                        have HG := Lib.hid hG
                        by_cases hklt : k < r.a.vs.length + 20
                        · have c0 : wr.cell? ⟨gl, j, none⟩ = some (.slice (some ⟨r.g, 0, none⟩) r.a.vs.length r.c) := row_cell hG.lrow (by rw [List.getElem?_map, HR.out]; rfl)
                          have c1 : wr.cell? ⟨gm, j, none⟩ = some (.slice (some ⟨b, 0, none⟩) (r.a.vs.length + 20) cc) := row_cell hG.mrow HMV.out
                          obtain ⟨b', cc', hmv', _, _, hbc⟩ := hG.new j r hlt2 HR.out
                          rw [HMV.out] at hmv'
                          simp only [Option.some.injEq, Value.slice.injEq, Addr.mk.injEq, and_true, true_and] at hmv'
                          obtain ⟨rfl, rfl⟩ := hmv'
                          have v1 : wr.cell? ⟨b, k, none⟩ = some (.string (marks j)) := hbc k hklt
                          have hne : (marks j != marks j) = false := text_self _
                          have g1 : (j : Int) < (R.length : Int) := by omega
                          have g2 : (k : Int) < (r.a.vs.length : Int) + 20 := by omega
                          by_cases hk2 : k < r.a.vs.length
                          · have v2 : wr.cell? ⟨r.g, k, none⟩ = some (.string (marks j)) := (hG.old j r hlt2 HR.out).2 k hk2
                            have g3 : decide ((k : Int) < (r.a.vs.length : Int)) = true := by simp; omega
                            clear hG hbc
                            go_wp2_with fail
                            go_quiet ((go_at_call 45; exact Calls.quiet_of_same (mark_p j (by omega) _)))
                            go_wp2_with fail
                            go_round
                            case rel => exact ⟨k + 1, by omega, by go_num, HG.out.drew _⟩
                            case measure => simp [RowKit.intOf]; omega
                          · have g3 : decide ((k : Int) < (r.a.vs.length : Int)) = false := by simp; omega
                            clear hG hbc
                            go_wp2_with fail
                            go_quiet ((go_at_call 45; exact Calls.quiet_of_same (mark_p j (by omega) _)))
                            go_wp2_with fail
                            go_round
                            case rel => exact ⟨k + 1, by omega, by go_num, HG.out.drew _⟩
                            case measure => simp [RowKit.intOf]; omega
                        · have ek : k = r.a.vs.length + 20 := by omega
                          subst ek
                          clear hG
                          go_wp2_with fail
                          go_round
                          case rel => exact ⟨j + 1, by omega, by go_num, HG.out⟩
                          case measure => simp [RowKit.intOf]; omega
                    · clear hG
                      go_wp2_with fail
                      go_ret
                      exact ⟨rfl, HG.out.below⟩
end Go.Proofs.YtiiadibbkijnhaaGreatDoor
