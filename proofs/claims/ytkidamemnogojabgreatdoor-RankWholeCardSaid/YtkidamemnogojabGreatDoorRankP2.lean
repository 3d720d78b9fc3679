/-
  rosterlaw22.RankWhole: the walk.
-/
import Derived.Test.YtkidamemnogojabGreatDoorRankP1
namespace Go.Proofs.YtkidamemnogojabGreatDoor
open Go.RowKit Go.RankLaw Go.Lib

theorem step_mid (A : Option Addr) (len c : Nat) (xs : List Int) (s : List UInt8) (pos m : Nat) (w : World) (hr : Rd w w.heap.size A len (xs.map (Value.int .u64))) (hx : xs.length = len) (hc : len ≤ c) (hc2 : c ≤ 9223372036854775807)
    (hlen : len * 8 ≤ 140737488351232) (hok : OkAt len s pos) (hs : s.length ≤ 140737488351232) (h1 : 1 ≤ m) (h2 : pos + m < len) (hv : Vars w) (hG : 10 ≤ w.heap.size) :
    Calls Tryz.prog 6 #[.slice A len c, .string ⟨s.toArray⟩, .int .i64 m] w fun e w' => ∃ v, e = .returned (.tuple #[v, .string ⟨(decDigits (pos + m)).toArray⟩, .int .i64 0]) ∧ w'.ownsRow w.heap.size 26 1 v m (((xs.drop pos).take m).map (Value.int .u64)) ∧ Below w.heap.size w w' := by
  refine (rankPage_any A len c xs s m w hr hx hc hc2 hlen hs (by omega) (by omega) hv hG).mono fun e w' h => ?_
  obtain ⟨ys, nx, er, v, hip, rfl, hown, hb⟩ := h
  obtain ⟨rfl, rfl, rfl⟩ := hip.uniq (by omega) (page_mid (m := m) hx hok h1 (by omega))
  refine ⟨v, rfl, ?_, hb⟩
  have e : ((xs.drop pos).take m).length = m := by rw [List.length_take, List.length_drop]; omega
  rw [e] at hown
  exact hown
theorem step_last (A : Option Addr) (len c : Nat) (xs : List Int) (s : List UInt8) (pos lp m : Nat) (w : World) (hr : Rd w w.heap.size A len (xs.map (Value.int .u64))) (hx : xs.length = len) (hc : len ≤ c) (hc2 : c ≤ 9223372036854775807)
    (hlen : len * 8 ≤ 140737488351232) (hok : OkAt len s pos) (hs : s.length ≤ 140737488351232) (h1 : 1 ≤ m) (hm : m ≤ 9223372036854775807) (hlp : pos + lp = len) (h2 : lp ≤ m) (hv : Vars w) (hG : 10 ≤ w.heap.size) :
    Calls Tryz.prog 6 #[.slice A len c, .string ⟨s.toArray⟩, .int .i64 m] w fun e w' => ∃ v, e = .returned (.tuple #[v, .string ⟨#[]⟩, .int .i64 0]) ∧ w'.ownsRow w.heap.size 26 1 v lp ((xs.drop pos).map (Value.int .u64)) ∧ Below w.heap.size w w' := by
  refine (rankPage_any A len c xs s m w hr hx hc hc2 hlen hs (by omega) (by omega) hv hG).mono fun e w' h => ?_
  obtain ⟨ys, nx, er, v, hip, rfl, hown, hb⟩ := h
  obtain ⟨rfl, rfl, rfl⟩ := hip.uniq (by omega) (page_last (m := m) hx hok h1 (by omega))
  refine ⟨v, rfl, ?_, hb⟩
  have e : (xs.drop pos).length = lp := by rw [List.length_drop]; omega
  rw [e] at hown
  exact hown

theorem own_cast {w : World} {b : Nat} {v : Value} {n n' : Nat} {L L' : List Value} (h : w.ownsRow b 26 1 v n L) (e1 : n = n') (e2 : L = L') : w.ownsRow b 26 1 v n' L' := by
  subst e1; subst e2; exact h

set_option maxRecDepth 200000 in
set_option maxHeartbeats 3200000 in
theorem rankWhole_some (A A' : Option Addr) (len c nl cl : Nat) (xs zs : List Int) (w : World) (hr : Rd w w.heap.size A len (xs.map (Value.int .u64))) (hx : xs.length = len) (hc : len ≤ c) (hc2 : c ≤ 9223372036854775807)
    (hr' : Rd w w.heap.size A' nl (zs.map (Value.int .i64))) (hz : ∀ z ∈ zs, -9223372036854775808 ≤ z ∧ z ≤ 9223372036854775807) (_hnl : nl ≤ 9223372036854775807)
    (hlen : len * 8 ≤ 140737488351232) (hl0 : 0 < len) (hv : Vars w) (hG : 10 ≤ w.heap.size) (hH : ∀ p ∈ varsOf0, HeldAs w p.1 p.2) :
    Calls Tryz.prog 4 #[.slice A len c, .slice A' nl cl] w fun e w' => e = .returned (.bool true) ∧ Below w.heap.size w w' := by
  have H := Lib.hid hx
  have HH := Lib.hid hH
  have HZ := Lib.hid hz
  clear hx hH hz
  obtain ⟨i0, hi, hz0, hz1, hz2⟩ := info_parts info26
  have L1 : ∀ u ∈ xs.map (Value.int .u64), u.oneCell' = true := ints_oneCell _ _
  go_enter Tryz.func4, Tryz.ntmps4
  go_wp2_with fail
  go_loopw [5, 6, 7] (fun v s i wr => ∃ (k pos : Nat) (t : List UInt8), k ≤ pos ∧ i = .int .i64 k ∧ s = .string ⟨t.toArray⟩ ∧ OkAt len t pos ∧ t.length ≤ 140737488351232 ∧ (pos < len ∨ (len = 0 ∧ pos = 0)) ∧ wr.ownsRow w.heap.size 26 1 v pos ((xs.take pos).map (Value.int .u64)) ∧ Below w.heap.size w wr) (fun _ _ i _ => len + 1 - (RowKit.intOf i).toNat)
  case atStart => exact ⟨0, 0, [], by omega, rfl, rfl, .inl ⟨rfl, rfl⟩, by simp, by omega, World.ownsRow_nil _ _ _ _, Below.refl _ _⟩
  case round =>
    obtain ⟨k, pos, t, hkp, rfl, rfl, hok, htl, hpos, hown, hb⟩ := hrel
    have HO := Lib.hid hok
    clear hok
    have hkl : k ≤ len := by omega
    have HRD : Rd wr wr.heap.size A len (xs.map (Value.int .u64)) := rd_later hr hb
    have HV : Vars wr := hv.below hb hG
    have HGR : 10 ≤ wr.heap.size := by have := hb.size; omega
    by_cases hlt : k < nl
    · obtain ⟨ad, u, rfl, _, hu, hcl⟩ := (hr'.below hb).cell hlt
      obtain ⟨z, rfl, hz⟩ : ∃ z, u = .int .i64 z ∧ z ∈ zs := by
        rw [List.getElem?_map] at hu
        cases hz : zs[k]? with
        | none => rw [hz] at hu; cases hu
        | some z => rw [hz] at hu; simp only [Option.map_some, Option.some.injEq] at hu; exact ⟨z, hu.symm, List.mem_of_getElem? hz⟩
      obtain ⟨hz3, hz4⟩ := HZ.out z hz
      clear hu hz
      obtain ⟨m, hmx⟩ : ∃ m : Nat, max 1 z = (m : Int) := ⟨(max 1 z).toNat, by omega⟩
      have hm1 : 1 ≤ m := by omega
      have hm2 : m ≤ 9223372036854775807 := by omega
      by_cases hmid : pos + m < len
      · obtain ⟨cc, rr, hcc, _, _⟩ := dec_head (pos + m)
        have hst := step_mid A len c xs t pos m wr HRD H.out hc hc2 hlen HO.out htl (by omega) hmid HV HGR
        rw [hcc] at hst
        have hm0 : ((m : Int) == 0) = false := by simp; omega
        have HC := Lib.hid hcc
        clear hcc
        go_wp2_with (first
          | (go_at_call 6; (with_reducible refine hst.mono ?_); rintro e w5 ⟨vp, rfl, hownp, hbp⟩; obtain ⟨Ap, cp, rfl, hcp, hcp2⟩ := own_form hownp)
          | (at_builtin; refine wpList_append_rd _ rfl (.tmp 64) (.tmp 65) _ rfl w.heap.size 26 i0 _ 8 Tryz.underlying22 hi hz0 hz1 hz2 rfl _ _ _ rfl (own_keep hown hbp (Nat.le_refl _)) w5.heap.size Ap m cp _ rfl (Rd.of_own hownp) (ints_oneCell _ _) (by unfold maxLen; omega) (by omega) (by have := hbp.size; have := hb.size; omega) ?_; intro va w6 hown6 hg6 hat6))
        go_roundw
        case rel =>
          refine ⟨k + 1, pos + m, cc :: rr, by omega, by go_num, rfl, .inr ⟨by omega, by omega, HC.out.symm⟩, ?_, by omega, ?_, ?_⟩
          · have := dec_len (pos + m); rw [HC.out] at this; omega
          · rw [List.take_add, List.map_append]; exact hown6
          · exact (hb.trans (hbp.mono hb.size)).grown hg6 (by have := hbp.size; have := hb.size; omega) (fun g hg => ((own_keep hown hbp (Nat.le_refl _)).lt g hg).1)
        case measure => simp [RowKit.intOf]; omega
      · obtain ⟨lp, hlp⟩ : ∃ lp, pos + lp = len := ⟨len - pos, by omega⟩
        have hst := step_last A len c xs t pos lp m wr HRD H.out hc hc2 hlen HO.out htl (by omega) (by omega) hlp (by omega) HV HGR
        have HP := Lib.hid hlp
        have hlm : lp ≤ m := by omega
        have hjoin : (xs.take pos).map (Value.int .u64) ++ (xs.drop pos).map (Value.int .u64) = xs.map (Value.int .u64) := by rw [← List.map_append, List.take_append_drop]
        have HJ := Lib.hid hjoin
        clear hlp hmid hjoin
        have h0 : ((lp : Int) == 0) = false := by have := HP.out; simp; omega
        go_wp2_with (first
          | (go_at_call 6; (with_reducible refine hst.mono ?_); rintro e w5 ⟨vp, rfl, hownp, hbp⟩; obtain ⟨Ap, cp, rfl, hcp, hcp2⟩ := own_form hownp)
          | (at_builtin; refine wpList_append_rd _ rfl (.tmp 64) (.tmp 65) _ rfl w.heap.size 26 i0 _ 8 Tryz.underlying22 hi hz0 hz1 hz2 rfl _ _ _ rfl (own_keep hown hbp (Nat.le_refl _)) w5.heap.size Ap lp cp _ rfl (Rd.of_own hownp) (ints_oneCell _ _) (by have := HP.out; unfold maxLen; omega) (by have := HP.out; omega) (by have := hbp.size; have := hb.size; omega) ?_; intro va w6 hown6 hg6 hat6; replace hown6 := own_cast hown6 HP.out HJ.out; have hb6 : Below w.heap.size w w6 := (hb.trans (hbp.mono hb.size)).grown hg6 (by have := hbp.size; have := hb.size; omega) (fun g hg => ((own_keep hown hbp (Nat.le_refl _)).lt g hg).1); clear hg6 hat6 hown hownp; obtain ⟨Av, cv, rfl, hcv, hcv2⟩ := own_form hown6))
        all_goals
          have hra : Rd w6 w6.heap.size Av len (xs.map (Value.int .u64)) := Rd.of_own hown6
          have hri : Rd w6 w6.heap.size A len (xs.map (Value.int .u64)) := rd_later hr hb6
          go_loopw [12] (fun i wr => ∃ j : Nat, j ≤ len ∧ i = .int .i64 j ∧ ∃ q, wr = w6.drewN q) (fun i _ => len - (RowKit.intOf i).toNat)
          case atStart => exact ⟨0, by omega, rfl, 0, rfl⟩
          case round =>
            obtain ⟨j, hj, rfl, q, rfl⟩ := hrel
            by_cases hjl : j < len
            · obtain ⟨ad1, u1, rfl, _, hu1, hc1⟩ := hra.cell hjl
              obtain ⟨ad2, u2, rfl, _, hu2, hc2'⟩ := hri.cell hjl
              rw [hu1] at hu2
              simp only [Option.some.injEq] at hu2
              subst hu2
              obtain ⟨y, rfl⟩ : ∃ y, u1 = .int .u64 y := by
                rw [List.getElem?_map] at hu1
                cases hy : xs[j]? with
                | none => rw [hy] at hu1; cases hu1
                | some y => rw [hy] at hu1; simp only [Option.map_some, Option.some.injEq] at hu1; exact ⟨y, hu1.symm⟩
              clear hu1
              go_wp2_with fail
              go_quiet (fail)
              go_wp2_with fail
              go_roundw
              case rel => exact ⟨j + 1, by omega, by go_num, _, rfl⟩
              case measure => simp [RowKit.intOf]; omega
            · go_wp2_with (go_at_call 8; refine (wakes_any (fun p hp => (HH.out p hp).below (w' := w6.drewN q) (B := w.heap.size) ⟨hb6.os, hb6.tape, hb6.output, hb6.size, hb6.block⟩ hG)).mono ?_; rintro e w10 ⟨rfl, hb10⟩)
              go_ret
              exact ⟨rfl, (⟨hb6.os, hb6.tape, hb6.output, hb6.size, hb6.block⟩ : Below w.heap.size w (w6.drewN q)).trans (hb10.mono hb6.size)⟩
    · by_cases hmid : pos + 1 < len
      · obtain ⟨cc, rr, hcc, _, _⟩ := dec_head (pos + 1)
        have hst := step_mid A len c xs t pos 1 wr HRD H.out hc hc2 hlen HO.out htl (by omega) hmid HV HGR
        rw [hcc] at hst
        rw [show (((1 : Nat) : Int)) = 1 from rfl] at hst
        have hm0 : ((1 : Int) == 0) = false := by simp
        have HC := Lib.hid hcc
        clear hcc
        go_wp2_with (first
          | (go_at_call 6; (with_reducible refine hst.mono ?_); rintro e w5 ⟨vp, rfl, hownp, hbp⟩; obtain ⟨Ap, cp, rfl, hcp, hcp2⟩ := own_form hownp)
          | (at_builtin; refine wpList_append_rd _ rfl (.tmp 64) (.tmp 65) _ rfl w.heap.size 26 i0 _ 8 Tryz.underlying22 hi hz0 hz1 hz2 rfl _ _ _ rfl (own_keep hown hbp (Nat.le_refl _)) w5.heap.size Ap 1 cp _ rfl (Rd.of_own hownp) (ints_oneCell _ _) (by unfold maxLen; omega) (by omega) (by have := hbp.size; have := hb.size; omega) ?_; intro va w6 hown6 hg6 hat6))
        go_roundw
        case rel =>
          refine ⟨k + 1, pos + 1, cc :: rr, by omega, by go_num, rfl, .inr ⟨by omega, by omega, HC.out.symm⟩, ?_, by omega, ?_, ?_⟩
          · have := dec_len (pos + 1); rw [HC.out] at this; omega
          · rw [List.take_add, List.map_append]; exact hown6
          · exact (hb.trans (hbp.mono hb.size)).grown hg6 (by have := hbp.size; have := hb.size; omega) (fun g hg => ((own_keep hown hbp (Nat.le_refl _)).lt g hg).1)
        case measure => simp [RowKit.intOf]; omega
      · obtain ⟨lp, hlp⟩ : ∃ lp, pos + lp = len := ⟨len - pos, by omega⟩
        have hst := step_last A len c xs t pos lp 1 wr HRD H.out hc hc2 hlen HO.out htl (by omega) (by omega) hlp (by omega) HV HGR
        rw [show (((1 : Nat) : Int)) = 1 from rfl] at hst
        have HP := Lib.hid hlp
        have hlm : lp ≤ 1 := by omega
        have hjoin : (xs.take pos).map (Value.int .u64) ++ (xs.drop pos).map (Value.int .u64) = xs.map (Value.int .u64) := by rw [← List.map_append, List.take_append_drop]
        have HJ := Lib.hid hjoin
        clear hlp hmid hjoin
        have h0 : ((lp : Int) == 0) = false := by have := HP.out; simp; omega
        go_wp2_with (first
          | (go_at_call 6; (with_reducible refine hst.mono ?_); rintro e w5 ⟨vp, rfl, hownp, hbp⟩; obtain ⟨Ap, cp, rfl, hcp, hcp2⟩ := own_form hownp)
          | (at_builtin; refine wpList_append_rd _ rfl (.tmp 64) (.tmp 65) _ rfl w.heap.size 26 i0 _ 8 Tryz.underlying22 hi hz0 hz1 hz2 rfl _ _ _ rfl (own_keep hown hbp (Nat.le_refl _)) w5.heap.size Ap lp cp _ rfl (Rd.of_own hownp) (ints_oneCell _ _) (by have := HP.out; unfold maxLen; omega) (by have := HP.out; omega) (by have := hbp.size; have := hb.size; omega) ?_; intro va w6 hown6 hg6 hat6; replace hown6 := own_cast hown6 HP.out HJ.out; have hb6 : Below w.heap.size w w6 := (hb.trans (hbp.mono hb.size)).grown hg6 (by have := hbp.size; have := hb.size; omega) (fun g hg => ((own_keep hown hbp (Nat.le_refl _)).lt g hg).1); clear hg6 hat6 hown hownp; obtain ⟨Av, cv, rfl, hcv, hcv2⟩ := own_form hown6))
        all_goals
          have hra : Rd w6 w6.heap.size Av len (xs.map (Value.int .u64)) := Rd.of_own hown6
          have hri : Rd w6 w6.heap.size A len (xs.map (Value.int .u64)) := rd_later hr hb6
          go_loopw [12] (fun i wr => ∃ j : Nat, j ≤ len ∧ i = .int .i64 j ∧ ∃ q, wr = w6.drewN q) (fun i _ => len - (RowKit.intOf i).toNat)
          case atStart => exact ⟨0, by omega, rfl, 0, rfl⟩
          case round =>
            obtain ⟨j, hj, rfl, q, rfl⟩ := hrel
            by_cases hjl : j < len
            · obtain ⟨ad1, u1, rfl, _, hu1, hc1⟩ := hra.cell hjl
              obtain ⟨ad2, u2, rfl, _, hu2, hc2'⟩ := hri.cell hjl
              rw [hu1] at hu2
              simp only [Option.some.injEq] at hu2
              subst hu2
              obtain ⟨y, rfl⟩ : ∃ y, u1 = .int .u64 y := by
                rw [List.getElem?_map] at hu1
                cases hy : xs[j]? with
                | none => rw [hy] at hu1; cases hu1
                | some y => rw [hy] at hu1; simp only [Option.map_some, Option.some.injEq] at hu1; exact ⟨y, hu1.symm⟩
              clear hu1
              go_wp2_with fail
              go_quiet (fail)
              go_wp2_with fail
              go_roundw
              case rel => exact ⟨j + 1, by omega, by go_num, _, rfl⟩
              case measure => simp [RowKit.intOf]; omega
            · go_wp2_with (go_at_call 8; refine (wakes_any (fun p hp => (HH.out p hp).below (w' := w6.drewN q) (B := w.heap.size) ⟨hb6.os, hb6.tape, hb6.output, hb6.size, hb6.block⟩ hG)).mono ?_; rintro e w10 ⟨rfl, hb10⟩)
              go_ret
              exact ⟨rfl, (⟨hb6.os, hb6.tape, hb6.output, hb6.size, hb6.block⟩ : Below w.heap.size w (w6.drewN q)).trans (hb10.mono hb6.size)⟩

set_option maxRecDepth 200000 in
set_option maxHeartbeats 3200000 in
theorem rankWhole_none (A A' : Option Addr) (c nl cl : Nat) (zs : List Int) (w : World) (hc2 : c ≤ 9223372036854775807)
    (hr' : Rd w w.heap.size A' nl (zs.map (Value.int .i64))) (hz : ∀ z ∈ zs, -9223372036854775808 ≤ z ∧ z ≤ 9223372036854775807) (_hnl : nl ≤ 9223372036854775807)
    (hv : Vars w) (hG : 10 ≤ w.heap.size) (hH : ∀ p ∈ varsOf0, HeldAs w p.1 p.2) :
    Calls Tryz.prog 4 #[.slice A 0 c, .slice A' nl cl] w fun e w' => e = .returned (.bool true) ∧ Below w.heap.size w w' := by
  have HH := Lib.hid hH
  have HZ := Lib.hid hz
  clear hH hz
  have R0 : Rd w w.heap.size A 0 (([] : List Int).map (Value.int .u64)) := ⟨rfl, fun h => absurd h (by omega)⟩
  obtain ⟨i0, hi, hz0, hz1, hz2⟩ := info_parts info26
  go_enter Tryz.func4, Tryz.ntmps4
  go_wp2_with fail
  go_loopw [5, 6, 7] (fun v s i wr => wr = w ∧ v = .slice none 0 0 ∧ s = .string ⟨#[]⟩ ∧ i = .int .i64 0) (fun _ _ _ _ => 0)
  case atStart => exact ⟨rfl, rfl, rfl, rfl⟩
  case round =>
    obtain ⟨rfl, rfl, rfl, rfl⟩ := hrel
    obtain ⟨w, rfl⟩ : ∃ wx, wx = wr := ⟨_, rfl⟩
    by_cases hlt : 0 < nl
    · obtain ⟨ad, u, rfl, _, hu, hcl⟩ := hr'.cell hlt
      obtain ⟨z, rfl, hz⟩ : ∃ z, u = .int .i64 z ∧ z ∈ zs := by
        rw [List.getElem?_map] at hu
        cases hz : zs[0]? with
        | none => rw [hz] at hu; cases hu
        | some z => rw [hz] at hu; simp only [Option.map_some, Option.some.injEq] at hu; exact ⟨z, hu.symm, List.mem_of_getElem? hz⟩
      obtain ⟨hz3, hz4⟩ := HZ.out z hz
      clear hu hz
      have hcl0 : w.cell? ad = some (.int .i64 z) := by simpa [Addr.add] using hcl
      obtain ⟨m, hmx⟩ : ∃ m : Nat, max 1 z = (m : Int) := ⟨(max 1 z).toNat, by omega⟩
      have hm1 : 1 ≤ m := by omega
      have hm2 : m ≤ 9223372036854775807 := by omega
      have hst := step_last A 0 c [] [] 0 0 m w R0 rfl (Nat.zero_le _) hc2 (by omega) (.inl ⟨rfl, rfl⟩) (by simp) (by omega) (by omega) rfl (by omega) hv hG
      go_wp2_with (first
        | (go_at_call 6; (with_reducible refine hst.mono ?_); rintro e w5 ⟨vp, rfl, hownp, hbp⟩; obtain ⟨Ap, cp, rfl, hcp, hcp2⟩ := own_form hownp)
        | (at_builtin; refine wpList_append_rd _ rfl (.tmp 64) (.tmp 65) _ rfl w.heap.size 26 i0 _ 8 Tryz.underlying22 hi hz0 hz1 hz2 rfl (.slice none 0 0) 0 [] rfl (World.ownsRow_nil _ _ _ _) w5.heap.size Ap 0 cp _ rfl (Rd.of_own hownp) (by simp) (Nat.zero_le _) (by omega) hbp.size ?_; intro va w6 hown6 hg6 hat6; have hb6 : Below w.heap.size w w6 := hbp.grown hg6 hbp.size (fun g hg => by simp [Value.ownBlock] at hg); clear hg6 hat6 hownp; obtain ⟨Av, cv, rfl, hcv, hcv2⟩ := own_form hown6))
      all_goals
        go_loopw [12] (fun i wr => i = .int .i64 0 ∧ wr = w6) (fun _ _ => 0)
        case atStart => exact ⟨rfl, rfl⟩
        case round =>
          obtain ⟨rfl, rfl⟩ := hrel
          go_wp2_with (go_at_call 8; refine (wakes_any (fun p hp => (HH.out p hp).below (B := w.heap.size) hb6 hG)).mono ?_; rintro e w10 ⟨rfl, hb10⟩)
          go_ret
          exact ⟨rfl, hb6.trans (hb10.mono hb6.size)⟩
    · skip
      have hst := step_last A 0 c [] [] 0 0 1 w R0 rfl (Nat.zero_le _) hc2 (by omega) (.inl ⟨rfl, rfl⟩) (by simp) (by omega) (by omega) rfl (by omega) hv hG
      rw [show (((1 : Nat) : Int)) = 1 from rfl] at hst
      go_wp2_with (first
        | (go_at_call 6; (with_reducible refine hst.mono ?_); rintro e w5 ⟨vp, rfl, hownp, hbp⟩; obtain ⟨Ap, cp, rfl, hcp, hcp2⟩ := own_form hownp)
        | (at_builtin; refine wpList_append_rd _ rfl (.tmp 64) (.tmp 65) _ rfl w.heap.size 26 i0 _ 8 Tryz.underlying22 hi hz0 hz1 hz2 rfl (.slice none 0 0) 0 [] rfl (World.ownsRow_nil _ _ _ _) w5.heap.size Ap 0 cp _ rfl (Rd.of_own hownp) (by simp) (Nat.zero_le _) (by omega) hbp.size ?_; intro va w6 hown6 hg6 hat6; have hb6 : Below w.heap.size w w6 := hbp.grown hg6 hbp.size (fun g hg => by simp [Value.ownBlock] at hg); clear hg6 hat6 hownp; obtain ⟨Av, cv, rfl, hcv, hcv2⟩ := own_form hown6))
      all_goals
        go_loopw [12] (fun i wr => i = .int .i64 0 ∧ wr = w6) (fun _ _ => 0)
        case atStart => exact ⟨rfl, rfl⟩
        case round =>
          obtain ⟨rfl, rfl⟩ := hrel
          go_wp2_with (go_at_call 8; refine (wakes_any (fun p hp => (HH.out p hp).below (B := w.heap.size) hb6 hG)).mono ?_; rintro e w10 ⟨rfl, hb10⟩)
          go_ret
          exact ⟨rfl, hb6.trans (hb10.mono hb6.size)⟩

theorem rankWhole_walk (A A' : Option Addr) (len c nl cl : Nat) (xs zs : List Int) (w : World) (hr : Rd w w.heap.size A len (xs.map (Value.int .u64))) (hx : xs.length = len) (hc : len ≤ c) (hc2 : c ≤ 9223372036854775807)
    (hr' : Rd w w.heap.size A' nl (zs.map (Value.int .i64))) (hz : ∀ z ∈ zs, -9223372036854775808 ≤ z ∧ z ≤ 9223372036854775807) (_hnl : nl ≤ 9223372036854775807)
    (hlen : len * 8 ≤ 140737488351232) (hv : Vars w) (hG : 10 ≤ w.heap.size) (hH : ∀ p ∈ varsOf0, HeldAs w p.1 p.2) :
    Calls Tryz.prog 4 #[.slice A len c, .slice A' nl cl] w fun e w' => e = .returned (.bool true) ∧ Below w.heap.size w w' := by
  by_cases h0 : 0 < len
  · exact rankWhole_some A A' len c nl cl xs zs w hr hx hc hc2 hr' hz _hnl hlen h0 hv hG hH
  · have e : len = 0 := by omega
    subst e
    exact rankWhole_none A A' c nl cl zs w hc2 hr' hz _hnl hv hG hH
end Go.Proofs.YtkidamemnogojabGreatDoor
