/-
  rosterlaw22.RankPages: the walk.
-/
import Derived.Test.YtkidamemnogojabGreatDoorRankW4
import Derived.Test.YtkidamemnogojabGreatDoorRankWakes
import Derived.Deep.Cut
namespace Go.Proofs.YtkidamemnogojabGreatDoor
open Go.RowKit Go.RankLaw Go.Lib

theorem rd_two (w : World) (x y : Value) (t : TypeId) : Rd (w.alloc (.cells #[x, y] t)) (w.heap.size + 1) (some ⟨w.heap.size, 0, none⟩) 2 [x, y] := by
  refine ⟨rfl, fun _ => ⟨_, rfl, Nat.lt_succ_self _, fun j u hj => ?_⟩⟩
  match j, hj with
  | 0, hj => simp at hj; subst hj; simp [Addr.add]
  | 1, hj => simp at hj; subst hj; simp [Addr.add]
theorem own_some {w : World} {base : Nat} {v : Value} {n : Nat} {L : List Value} (h : w.ownsRow base 26 1 v n L) (hn : 0 < n) : ∃ g c, v = .slice (some ⟨g, 0, none⟩) n c ∧ n ≤ c ∧ c ≤ 9223372036854775807 ∧ base ≤ g ∧ g < w.heap.size := by
  rcases h.2 with ⟨rfl, rfl⟩ | ⟨g, cap, cur, rfl, hg, hh, h1, h2, _⟩
  · omega
  · exact ⟨g, cap, rfl, h1, by unfold maxLen at h2; omega, hg, (Array.getElem?_eq_some_iff.1 hh).1⟩
theorem two_one (x y : Int) : ∀ u ∈ [Value.int .u64 x, Value.int .u64 y], u.oneCell' = true := by
  intro u hu
  simp only [List.mem_cons, List.not_mem_nil, or_false] at hu
  rcases hu with rfl | rfl <;> rfl
theorem head_of {xs : List Int} {len : Nat} (hx : xs.length = len) {M : List Value} : (xs.map (Value.int .u64) ++ M).take len = xs.map (Value.int .u64) := by
  subst hx
  rw [List.take_append_of_le_length (by simp), List.take_of_length_le (by simp)]

theorem page_len {xs ys : List Int} {s nx : List UInt8} {n er : Int} (h : IsPage xs s n ys nx er) : ys.length ≤ xs.length := by
  rcases h with ⟨_, rfl, _⟩ | ⟨_, _, rfl, _⟩ | ⟨_, i, _, _, ⟨_, rfl, _⟩ | ⟨_, rfl, _⟩⟩
  · simp
  · simp
  · simp only [List.length_take, List.length_drop]; omega
  · simp only [List.length_drop]; omega
theorem rd_drewN {w : World} {B n : Nat} {A : Option Addr} {xs : List Value} (h : Rd w B A n xs) (k : Nat) : Rd (w.drewN k) B A n xs := h
theorem rd_later {w w' : World} {n : Nat} {A : Option Addr} {xs : List Value} (h : Rd w w.heap.size A n xs) (hb : Below w.heap.size w w') : Rd w' w'.heap.size A n xs := (h.below hb).more hb.size

theorem rd_one (w : World) (x : Value) (t : TypeId) : Rd (w.alloc (.cells #[x] t)) (w.heap.size + 1) (some ⟨w.heap.size, 0, none⟩) 1 [x] := by
  refine ⟨rfl, fun _ => ⟨_, rfl, Nat.lt_succ_self _, fun j u hj => ?_⟩⟩
  match j, hj with
  | 0, hj => simp at hj; subst hj; simp [Addr.add]
/-- Two rows of one's own beside each other; below D nothing turns. -/
structure Two (D : Nat) (w0 wr : World) (va : Value) (na : Nat) (La : List Value) (vb : Value) (nb : Nat) (Lb : List Value) : Prop where
  old : Below D w0 wr
  a : wr.ownsRow D 26 1 va na La
  b : wr.ownsRow D 26 1 vb nb Lb
  ne : ∀ g, va.ownBlock = some g → vb.ownBlock ≠ some g
theorem Two.beside {D : Nat} {w0 wr : World} {va : Value} {na : Nat} {La : List Value} {vb : Value} {nb : Nat} {Lb : List Value} (h : Two D w0 wr va na La vb nb Lb) : vb.ownBlock = none ∨ vb.ownBlock ≠ va.ownBlock := by
  cases hb : vb.ownBlock with
  | none => exact .inl rfl
  | some g => exact .inr fun e => h.ne g e.symm hb
theorem Two.store {D : Nat} {w0 wr : World} {g c : Nat} {na : Nat} {La : List Value} {vb : Value} {nb : Nat} {Lb : List Value} (h : Two D w0 wr (.slice (some ⟨g, 0, none⟩) na c) na La vb nb Lb) (k : Nat) (u : Value) :
    Two D w0 (wr.setCell ⟨g, k, none⟩ u) (.slice (some ⟨g, 0, none⟩) na c) na (La.set k u) vb nb Lb :=
  ⟨h.old.setCell (p := ⟨g, k, none⟩) (h.a.lt g rfl).1 u, (h.a.stored k u).1, h.b.kept (h.a.stored k u).2 h.beside, h.ne⟩
theorem Two.alloc {D : Nat} {w0 wr : World} {va : Value} {na : Nat} {La : List Value} {vb : Value} {nb : Nat} {Lb : List Value} (h : Two D w0 wr va na La vb nb Lb) (hD : D ≤ wr.heap.size) (o : Obj) : Two D w0 (wr.alloc o) va na La vb nb Lb :=
  ⟨h.old.alloc hD o, h.a.alloc o, h.b.alloc o, h.ne⟩
theorem Two.grow {D : Nat} {w0 wr w' : World} {va v' : Value} {na n' : Nat} {La L' : List Value} {vb : Value} {nb : Nat} {Lb : List Value} (h : Two D w0 wr va na La vb nb Lb) (hD : D ≤ wr.heap.size) (hown : w'.ownsRow D 26 1 v' n' L') (hg : wr.grownBy w' va.ownBlock)
    (hat : v'.ownBlock = va.ownBlock ∨ v'.ownBlock = some wr.heap.size) : Two D w0 w' v' n' L' vb nb Lb := by
  refine ⟨h.old.grown hg hD (fun k hk => (h.a.lt k hk).1), hown, h.b.kept hg h.beside, fun g hg' hb => ?_⟩
  rcases hat with e | e
  · exact h.ne g (e ▸ hg') hb
  · rw [e] at hg'
    simp only [Option.some.injEq] at hg'
    have := (h.b.lt g hb).2
    omega
theorem heap_drew (w : World) (q : Nat) : (w.drewN q).heap = w.heap := rfl

set_option maxRecDepth 200000 in
set_option maxHeartbeats 3200000 in
theorem rankPages_walk (A : Option Addr) (len c : Nat) (xs : List Int) (l : List UInt8) (n : Int) (w : World) (hr : Rd w w.heap.size A len (xs.map (Value.int .u64))) (hx : xs.length = len) (hc : len ≤ c) (hc2 : c ≤ 9223372036854775807)
    (hlen : len * 8 ≤ 140737488351232) (hbl : l.length ≤ 140737488351232) (hn0 : -9223372036854775808 ≤ n) (hn1 : n ≤ 9223372036854775807) (hv : Vars w) (hG : 10 ≤ w.heap.size) (hH : ∀ p ∈ varsOf0, HeldAs w p.1 p.2) :
    Calls Tryz.prog 3 #[.slice A len c, .string ⟨l.toArray⟩, .int .i64 n] w fun e w' => e = .returned (.bool true) ∧ Below w.heap.size w w' := by
  have H := Lib.hid hx
  have HH := Lib.hid hH
  clear hx hH
  obtain ⟨i0, hi, hz0, hz1, hz2⟩ := info_parts info26
  have L1 : ∀ u ∈ xs.map (Value.int .u64), u.oneCell' = true := ints_oneCell _ _
  go_enter Tryz.func3, Tryz.ntmps3
  go_wp2_with (first
    | (go_at_call 5; (with_reducible refine (refPage_any w.heap.size A len c xs l n w rfl hr H.out hc hc2 hlen hn0 hn1).mono ?_); rintro e w1 hp; obtain ⟨ys, nx, er, vw, hip, rfl, hw, hb1⟩ := hp; obtain ⟨Aw, cw, rfl, hcw, hcw2⟩ := own_form hw; have HIP := Lib.hid hip; clear hip)
    | (at_builtin; refine wpList_append_rd _ rfl (.tmp 28) (.tmp 29) _ rfl w1.heap.size 26 i0 _ 8 Tryz.underlying22 hi hz0 hz1 hz2 rfl (.slice (some ⟨w1.heap.size, 0, none⟩) 0 0) 0 [] rfl (World.ownsRow_made w1 #[] 0 (Nat.le_refl _) (Nat.zero_le _) rfl) w.heap.size A len c _ rfl ((hr.below hb1).alloc hb1.size _) L1 (by unfold maxLen; omega) (by omega) (by simp) ?_; intro v2 w2 hown2 hg2 hat2; (try simp only [Nat.zero_add, List.nil_append] at hown2); have hb2 : Below w1.heap.size w1 w2 := ((Below.refl _ _).alloc (Nat.le_refl _) _).grown hg2 (by simp) (fun k hk => by simp [Value.ownBlock] at hk; omega); clear hg2 hat2)
    | (at_builtin; refine wpList_append_rd _ rfl (.tmp 30) (.tmp 31) _ rfl w1.heap.size 26 i0 _ 8 Tryz.underlying22 hi hz0 hz1 hz2 rfl v2 len _ rfl (hown2.alloc _) (w2.heap.size + 1) _ 2 2 [.int .u64 77, .int .u64 78] rfl (rd_two w2 _ _ _) (two_one _ _) (by unfold maxLen; omega) (by omega) (by have := hb2.size; simp; omega) ?_; intro v3 w3 hown3 hg3 hat3; have hb3 : Below w1.heap.size w1 w3 := (hb2.alloc hb2.size _).grown hg3 (by have := hb2.size; simp; omega) (fun k hk => ((hown2.lt) k hk).1); clear hg3 hat3 hown2 hb2; obtain ⟨g, cr, rfl, hcr, hcr2, hg1, hg2⟩ := own_some hown3 (by omega)))
  have hrm : Rd w3 w3.heap.size (some ⟨g, 0, none⟩) len (xs.map (Value.int .u64)) := by
    have h := (Rd.of_own hown3).take (k := len) (by omega)
    rw [head_of H.out] at h
    exact h
  have hb03 : Below w.heap.size w w3 := hb1.trans (hb3.mono hb1.size)
  have hv3 : Vars w3 := hv.below hb03 hG
  have hG3 : 10 ≤ w3.heap.size := by have := hb03.size; omega
  have hl3 : len ≤ cr := by omega
  have hm : xs.length < 9223372036854775808 := by have := H.out; omega
  go_wp2_with (first
    | (go_at_call 6; (with_reducible refine (rankPage_any (some ⟨g, 0, none⟩) len cr xs l n w3 hrm H.out hl3 hcr2 hlen hbl hn0 hn1 hv3 hG3).mono ?_); rintro e w4 hp; obtain ⟨ya, na, ea, va, hia, rfl, hwa, hb4⟩ := hp; obtain ⟨e1, e2, e3⟩ := hia.uniq hm HIP.out; subst e1 e2 e3; obtain ⟨Aa, ca, rfl, hca, hca2⟩ := own_form hwa; clear hia))
  have hrm4 : Rd w4 w4.heap.size (some ⟨g, 0, none⟩) len (xs.map (Value.int .u64)) := rd_later hrm hb4
  have hv4 : Vars w4 := hv3.below hb4 hG3
  have hG4 : 10 ≤ w4.heap.size := by have := hb4.size; omega
  go_wp2_with (first
    | (go_at_call 6; (with_reducible refine (rankPage_any (some ⟨g, 0, none⟩) len cr xs l n w4 hrm4 H.out hl3 hcr2 hlen hbl hn0 hn1 hv4 hG4).mono ?_); rintro e w5 hp; obtain ⟨yb, nb, eb, vb, hib, rfl, hwb, hb5⟩ := hp; obtain ⟨e1, e2, e3⟩ := hib.uniq hm HIP.out; subst e1 e2 e3; obtain ⟨Ab, cb, rfl, hcb, hcb2⟩ := own_form hwb; clear hib))
  have hly : yb.length ≤ len := by have := page_len HIP.out; have := H.out; omega
  have hra : Rd w5 w5.heap.size Aa yb.length (yb.map (Value.int .u64)) := rd_later (Rd.of_own hwa) hb5
  have hrb : Rd w5 w5.heap.size Ab yb.length (yb.map (Value.int .u64)) := Rd.of_own hwb
  have hrw3 : Rd w3 w3.heap.size Aw yb.length (yb.map (Value.int .u64)) := rd_later (Rd.of_own hw) hb3
  have hrw : Rd w5 w5.heap.size Aw yb.length (yb.map (Value.int .u64)) := rd_later (rd_later hrw3 hb4) hb5
  have hT : Two w3.heap.size w3 w5 (.slice Aa yb.length ca) yb.length (yb.map (Value.int .u64)) (.slice Ab yb.length cb) yb.length (yb.map (Value.int .u64)) :=
    ⟨hb4.trans (hb5.mono hb4.size), own_keep hwa hb5 (Nat.le_refl _), own_keep hwb (Below.refl _ _) hb4.size, fun g' h1 h2 => by have := (hwa.lt g' h1).2; have := (hwb.lt g' h2).1; omega⟩
  go_wp2_with (first
    | (go_at_call 7; (with_reducible refine (same_true w5.heap.size Aa Aw yb.length ca cw yb w5 hra hrw (by omega)).mono ?_); rintro e w6 ⟨rfl, q, rfl⟩)
    | (go_at_call 7; (with_reducible refine (same_true w5.heap.size Ab Aw yb.length cb cw yb (w5.drewN q) (rd_drewN hrb q) (rd_drewN hrw q) (by omega)).mono ?_); rintro e w7 ⟨rfl, q2, hw7⟩; have hT7 : Two w3.heap.size w3 w7 (.slice Aa yb.length ca) yb.length (yb.map (Value.int .u64)) (.slice Ab yb.length cb) yb.length (yb.map (Value.int .u64)) := (by rw [hw7]; exact ⟨⟨hT.old.os, hT.old.tape, hT.old.output, hT.old.size, hT.old.block⟩, hT.a, hT.b, hT.ne⟩); clear hw7))
  go_loopw [18] (fun i wr => ∃ (k : Nat) (La : List Value), k ≤ yb.length ∧ i = .int .i64 k ∧ Two w3.heap.size w3 wr (.slice Aa yb.length ca) yb.length La (.slice Ab yb.length cb) yb.length (yb.map (Value.int .u64))) (fun i _ => yb.length - (RowKit.intOf i).toNat)
  case atStart => exact ⟨0, _, by omega, rfl, hT7⟩
  case round =>
    obtain ⟨k, La, hk, rfl, hTr⟩ := hrel
    by_cases hlt : k < yb.length
    · obtain ⟨ga, ca', e, _, _, _, _⟩ := own_some hTr.a (by omega)
      simp only [Value.slice.injEq, true_and] at e
      obtain ⟨rfl, rfl⟩ := e
      have hcl := hTr.a.cellAt k (by omega)
      have hll : k < La.length := by have := hTr.a.1; omega
      rw [List.getElem?_eq_getElem hll] at hcl
      have hfr := hTr.a.frozenAt k
      go_wp2_with fail
      go_roundw
      case rel => exact ⟨k + 1, _, by omega, by go_num, hTr.store k _⟩
      case measure => simp [RowKit.intOf]; omega
    · go_wp2_with fail
      clear hlt hk
      obtain ⟨wo, rfl⟩ : ∃ wo : World, wo = wr := ⟨_, rfl⟩
      go_loopw [12, 19] (fun v i wr => ∃ (k : Nat) (La : List Value), k ≤ 40 ∧ i = .int .i64 k ∧ Two w3.heap.size w3 wr v (yb.length + k) La (.slice Ab yb.length cb) yb.length (yb.map (Value.int .u64))) (fun _ i _ => 40 - (RowKit.intOf i).toNat)
      case atStart => exact ⟨0, _, by omega, rfl, hTr⟩
      case round =>
        clear hTr hT7 hT hra hrb hrw
        obtain ⟨k, La, hk, rfl, hTr⟩ := hrel
        obtain ⟨A1, c1, rfl, hc1, hc1'⟩ := own_form hTr.a
        by_cases hlt : k < 40
        · have hD := hTr.old.size
          go_wp2_with (at_builtin; refine wpList_append_rd _ rfl (.tmp 96) (.tmp 97) _ rfl w3.heap.size 26 i0 _ 8 Tryz.underlying22 hi hz0 hz1 hz2 rfl _ _ _ rfl (hTr.a.alloc _) (wr.heap.size + 1) _ 1 1 [.int .u64 6] rfl (rd_one wr _ _) (fun u hu => ?o1) ?o2 ?o3 ?o4 ?_)
          case o1 => simp only [List.mem_singleton] at hu; subst hu; rfl
          case o2 => unfold maxLen; omega
          case o3 => omega
          case o4 => simp; omega
          intro v' w' hown hgrow hat
          have hn := (hTr.alloc hD _).grow (by simp; omega) hown hgrow (by simpa using hat)
          go_wp2_with fail
          go_roundw
          case rel => exact ⟨k + 1, _, by omega, by go_num, hn⟩
          case measure => simp [RowKit.intOf]; omega
        · have hk40 : k = 40 := by omega
          subst hk40
          have hb0r : Below w.heap.size w wr := hb03.trans (hTr.old.mono hb03.size)
          have frb : Rd wr wr.heap.size Ab yb.length (yb.map (Value.int .u64)) := Rd.of_own hTr.b
          have frw : Rd wr wr.heap.size Aw yb.length (yb.map (Value.int .u64)) := rd_later hrw3 hTr.old
          have frm : Rd wr wr.heap.size (some ⟨g, 0, none⟩) len (xs.map (Value.int .u64)) := rd_later hrm hTr.old
          have fri : Rd wr wr.heap.size A len (xs.map (Value.int .u64)) := rd_later hr hb0r
          have c77 : wr.cell? ⟨g, len, none⟩ = some (.int .u64 77) := by
            rw [hTr.old.cell (p := ⟨g, len, none⟩) hg2, hown3.cellAt len (by omega), List.getElem?_append_right (by simp [H.out])]
            simp [H.out]
          have c78 : wr.cell? ⟨g, len + 1, none⟩ = some (.int .u64 78) := by
            rw [hTr.old.cell (p := ⟨g, len + 1, none⟩) hg2, hown3.cellAt (len + 1) (by omega), List.getElem?_append_right (by simp [H.out])]
            simp [H.out]
          go_wp2_with (first
            | (go_at_call 7; (with_reducible refine (same_true wr.heap.size Ab Aw yb.length cb cw yb wr frb frw (by omega)).mono ?_); rintro e w8 ⟨rfl, q3, rfl⟩)
            | (go_at_call 7; (with_reducible refine (same_true wr.heap.size (some ⟨g, 0, none⟩) A len cr c xs (wr.drewN q3) (rd_drewN frm q3) (rd_drewN fri q3) hlen).mono ?_); rintro e w9 ⟨rfl, q4, rfl⟩)
            | (go_at_call 8; refine (wakes_any (fun p hp => (HH.out p hp).below (w' := wr.drewN (q3 + q4)) (B := w.heap.size) ⟨hb0r.os, hb0r.tape, hb0r.output, hb0r.size, hb0r.block⟩ hG)).mono ?_; rintro e w10 ⟨rfl, hb10⟩))
          go_ret
          exact ⟨rfl, (⟨hb0r.os, hb0r.tape, hb0r.output, hb0r.size, hb0r.block⟩ : Below w.heap.size w (wr.drewN (q3 + q4))).trans (hb10.mono hb0r.size)⟩
end Go.Proofs.YtkidamemnogojabGreatDoor
