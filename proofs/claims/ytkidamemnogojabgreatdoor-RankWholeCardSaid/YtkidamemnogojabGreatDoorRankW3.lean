/-
  rank.Page: what a page is.
-/
import Derived.Test.YtkidamemnogojabGreatDoorRankW2
import Derived.WalkSpells
import Derived.WalkSmall
import Derived.Lib.AtoiBound
namespace Go.Proofs.YtkidamemnogojabGreatDoor
open Go.RowKit Go.RankLaw Go.Lib

theorem eql_nil (a : Option Addr) (n c : Nat) (w : World) : (binOp .eql 22 (.slice a n c) (.slice none 0 0)).run Tryz.prog w = .ok (.bool a.isNone) w := by
  simp only [binOp]
  simp [Op.equal, Op.maxDepth, Lib.run_equalIn_slice_nil w 9999 22 26 a n c 0 0 Tryz.underlying22]

set_option maxRecDepth 100000 in
set_option maxHeartbeats 400000 in
theorem clone_any (B : Nat) (A : Option Addr) (n c : Nat) (L : List Value) (w : World) (hB : B ≤ w.heap.size) (hr : Rd w B A n L) (h1 : ∀ u ∈ L, u.oneCell' = true) (hlen : n * 8 ≤ 140737488351232) :
    Calls Tryz.prog 12 #[.slice A n c] w fun e w' => ∃ v, e = .returned v ∧ w'.ownsRow w.heap.size 26 1 v n L ∧ Below w.heap.size w w' := by
  obtain ⟨i0, hi, hz0, hz1, hz2⟩ := info_parts info26
  cases A with
  | none =>
    have hn : n = 0 := by
      rcases Nat.eq_zero_or_pos n with h | h
      · exact h
      · obtain ⟨ad, e, _⟩ := hr.2 h; cases e
    subst hn
    have hL : L = [] := List.eq_nil_of_length_eq_zero hr.1
    subst hL
    have he := eql_nil none 0 c w
    simp only [Option.isNone_none] at he
    go_enter Tryz.func12, Tryz.ntmps12
    go_wp2_with fail
    go_ret
    exact ⟨_, rfl, World.ownsRow_nil _ _ _ _, Below.refl _ _⟩
  | some ad =>
    have he := eql_nil (some ad) n c w
    simp only [Option.isNone_some] at he
    go_enter Tryz.func12, Tryz.ntmps12
    go_wp2_with (at_builtin; refine wpList_append_rd _ rfl (.tmp 5) (.tmp 6) _ rfl w.heap.size 26 i0 _ 8 Tryz.underlying22 hi hz0 hz1 hz2 rfl _ 0 [] rfl ?r0 B (some ad) n c L rfl (hr.alloc hB _) h1 ?r3 ?r4 ?r5 ?_)
    case r0 => exact World.ownsRow_made _ _ 0 (Nat.le_refl _) (by decide) (by simp)
    case r3 => unfold maxLen; omega
    case r4 => omega
    case r5 => simp
    intro v w1 hown hgrow _
    go_wp2_with fail
    go_ret
    refine ⟨v, rfl, by simpa using hown, ((Below.refl _ _).alloc (Nat.le_refl _) _).grown hgrow (by simp) (fun k hk => ?_)⟩
    simp [Value.ownBlock] at hk
    omega

theorem below_grow (w : World) (k : Nat) (os : Array Obj) : Below w.heap.size w (Go.Sort.grow (w.drewN k) os) :=
  ⟨rfl, rfl, rfl, by simp [Go.Sort.grow], fun j hj => by simp [Go.Sort.grow, Array.getElem?_append_left hj]⟩
theorem itoa_b (n : Nat) (hn : n ≤ 9223372036854775807) (w : World) (htab : TabIs Tryz.prog w "internal/strconv.uint64pow10" .u64 pow10Tab) :
    Calls Tryz.prog 11 #[.int .i64 n] w fun e w' => e = .returned (.string ⟨(decDigits n).toArray⟩) ∧ Below w.heap.size w w' :=
  (itoa_any n (by omega) (by omega) w htab).mono fun e w' ⟨h, k, os, hw⟩ => ⟨by rw [h]; simp [itoa], by rw [hw]; exact below_grow w k os⟩
theorem itoa_add (a b : Nat) (hn : a + b ≤ 9223372036854775807) (w : World) (htab : TabIs Tryz.prog w "internal/strconv.uint64pow10" .u64 pow10Tab) :
    Calls Tryz.prog 11 #[.int .i64 ((a : Int) + (b : Int))] w fun e w' => e = .returned (.string ⟨(decDigits (a + b)).toArray⟩) ∧ Below w.heap.size w w' := by
  rw [← Int.natCast_add]; exact itoa_b (a + b) hn w htab
theorem atoi_b (l : List UInt8) (hmax : l.length ≤ 9223372036854775806) (v : Int) (h : atoiAll l = .ok v) (w : World) :
    Calls Tryz.prog 10 #[.string ⟨l.toArray⟩] w fun e w' => e = .returned (.tuple #[.int .i64 v, .nilIface]) ∧ Below w.heap.size w w' :=
  (atoi_ok ⟨l.toArray⟩ hmax v h w).mono fun e w' ⟨h1, h2⟩ => ⟨h1, by
    rcases h2 with rfl | ⟨t, rfl⟩
    · exact Below.refl _ _
    · exact bytesWorld_below _ _ _⟩
theorem own_form {w : World} {base : Nat} {v : Value} {n : Nat} {L : List Value} (h : w.ownsRow base 26 1 v n L) : ∃ A c, v = .slice A n c ∧ n ≤ c ∧ c ≤ 9223372036854775807 := by
  rcases h.2 with ⟨rfl, rfl⟩ | ⟨g, cap, cur, rfl, _, _, h1, h2, _⟩
  · exact ⟨none, 0, rfl, Nat.le_refl _, by omega⟩
  · exact ⟨_, cap, rfl, h1, by unfold maxLen at h2; omega⟩
/-- What the package-level variables hold. -/
structure Vars (w : World) : Prop where
  tab : TabIs Tryz.prog w "internal/strconv.uint64pow10" .u64 pow10Tab
  syn : ∃ tp p, w.var? Tryz.prog "strconv.ErrSyntax" = some #[.iface tp p]
  rng : ∃ tp p, w.var? Tryz.prog "strconv.ErrRange" = some #[.iface tp p]
theorem Vars.below {B : Nat} {w w' : World} (h : Vars w) (hb : Below B w w') (hB : 10 ≤ B) : Vars w' := by
  obtain ⟨h1, ⟨tp, p, h2⟩, ⟨tq, q, h3⟩⟩ := h
  exact ⟨var?_below (g := 3) hb (by kernel_rfl) (by omega) h1, ⟨tp, p, var?_below (g := 0) hb (by kernel_rfl) (by omega) h2⟩, ⟨tq, q, var?_below (g := 1) hb (by kernel_rfl) (by omega) h3⟩⟩
theorem own_keep {w w' : World} {b b' : Nat} {v : Value} {n : Nat} {L : List Value} (h : w.ownsRow b 26 1 v n L) (hb : Below w.heap.size w w') (hB : b' ≤ b) : w'.ownsRow b' 26 1 v n L := by
  refine ⟨h.1, ?_⟩
  rcases h.2 with h0 | ⟨g, cap, cur, rfl, hbg, hg, rest⟩
  · exact .inl h0
  · exact .inr ⟨g, cap, cur, rfl, by omega, by rw [hb.block g (Array.getElem?_eq_some_iff.1 hg).1]; exact hg, rest⟩
theorem take_one {L : List Value} {m : Nat} (h : ∀ u ∈ L, u.oneCell' = true) : ∀ u ∈ L.take m, u.oneCell' = true := fun u hu => h u (List.mem_of_mem_take hu)
theorem drop_one {L : List Value} {m : Nat} (h : ∀ u ∈ L, u.oneCell' = true) : ∀ u ∈ L.drop m, u.oneCell' = true := fun u hu => h u (List.mem_of_mem_drop hu)

set_option maxRecDepth 100000 in
set_option maxHeartbeats 1600000 in
theorem rankPage_nil (A : Option Addr) (len c : Nat) (xs : List Int) (m : Nat) (w : World) (hr : Rd w w.heap.size A len (xs.map (Value.int .u64))) (hx : xs.length = len) (hc : len ≤ c) (_hc2 : c ≤ 9223372036854775807)
    (hlen : len * 8 ≤ 140737488351232) (h1 : 1 ≤ m) (hn1 : m ≤ 9223372036854775807) (hv : Vars w) (hG : 10 ≤ w.heap.size) :
    Calls Tryz.prog 6 #[.slice A len c, .string ⟨#[]⟩, .int .i64 m] w (Paged w.heap.size xs [] m w) := by
  have H := Lib.hid hx
  have HL : ∀ u ∈ xs.map (Value.int .u64), u.oneCell' = true := ints_oneCell _ _
  clear hx
  by_cases h2 : m < len
  · go_enter Tryz.func6, Tryz.ntmps6
    go_wp2_with (first
      | (go_at_call 12; (with_reducible refine (clone_any w.heap.size A len c _ w (Nat.le_refl _) hr HL hlen).mono ?_); rintro e w1 ⟨v1, rfl, hown1, hb1⟩; obtain ⟨A1, c1, rfl, hc1, hc1'⟩ := own_form hown1)
      | (go_at_call 12; (with_reducible refine (clone_any w1.heap.size A1 m c1 _ w1 (Nat.le_refl _) ((Rd.of_own hown1).take (k := m) (by omega)) (take_one HL) (by omega)).mono ?_); rintro e w2 ⟨v2, rfl, hown2, hb2⟩)
      | (go_at_call 11; (with_reducible refine (itoa_b m (by omega) w2 ((hv.below hb1 hG).below hb2 (by have := hb1.size; omega)).tab).mono ?_); rintro e w3 ⟨rfl, hb3⟩))
    go_ret3
    exact paged_of (nx := decDigits m) (by simpa using page_mid (k := 0) H.out (.inl ⟨rfl, rfl⟩) h1 (by omega)) (own_keep hown2 hb3 hb1.size) (by simp [List.map_take])
      ((hb1.trans (hb2.mono hb1.size)).trans (hb3.mono (by have := hb1.size; have := hb2.size; omega)))
  · go_enter Tryz.func6, Tryz.ntmps6
    go_wp2_with (first
      | (go_at_call 12; (with_reducible refine (clone_any w.heap.size A len c _ w (Nat.le_refl _) hr HL hlen).mono ?_); rintro e w1 ⟨v1, rfl, hown1, hb1⟩; obtain ⟨A1, c1, rfl, hc1, hc1'⟩ := own_form hown1))
    go_ret3
    exact paged_of (nx := []) (by simpa using page_last (k := 0) H.out (.inl ⟨rfl, rfl⟩) h1 (by omega)) hown1 rfl hb1

set_option maxRecDepth 100000 in
set_option maxHeartbeats 3200000 in
theorem rankPage_at (A : Option Addr) (len c : Nat) (xs : List Int) (b : UInt8) (r : List UInt8) (k m : Nat) (w : World) (hr : Rd w w.heap.size A len (xs.map (Value.int .u64))) (hx : xs.length = len) (hc : len ≤ c) (hc2 : c ≤ 9223372036854775807)
    (hlen : len * 8 ≤ 140737488351232) (h1 : 1 ≤ m) (hn1 : m ≤ 9223372036854775807) (hk1 : 1 ≤ k) (hk2 : k ≤ len) (hkl : b :: r = decDigits k) (hv : Vars w) (hG : 10 ≤ w.heap.size) :
    Calls Tryz.prog 6 #[.slice A len c, .string ⟨(b :: r).toArray⟩, .int .i64 m] w (Paged w.heap.size xs (b :: r) m w) := by
  have H := Lib.hid hx
  have HL : ∀ u ∈ xs.map (Value.int .u64), u.oneCell' = true := ints_oneCell _ _
  have ha : atoiAll (b :: r) = .ok (k : Int) := by rw [hkl]; exact atoi_dec k (by omega)
  have hbl : (b :: r).length ≤ 9223372036854775806 := by rw [hkl]; have := dec_len k; omega
  have h7 : (decDigits k == b :: r) = true := by simp [hkl]
  have HK := Lib.hid hkl
  have HA := Lib.hid ha
  clear hx hkl ha
  by_cases hck : c = k
  · have e1 : k = len := by omega
    subst e1
    subst hck
    have R0 : ∀ w1, Rd w1 w.heap.size A 0 [] := fun w1 => ⟨rfl, fun h => absurd h (by omega)⟩
    have R1 : ∀ u ∈ ([] : List Value), u.oneCell' = true := fun u hu => by cases hu
    go_enter Tryz.func6, Tryz.ntmps6
    go_wp2_with (first
      | (go_at_call 10; (with_reducible refine (atoi_b (b :: r) hbl c HA.out w).mono ?_); rintro e w0 ⟨rfl, hb0⟩)
      | (go_at_call 11; (with_reducible refine (itoa_b c (by omega) w0 (hv.below hb0 hG).tab).mono ?_); rintro e w1 ⟨rfl, hb1⟩)
      | (go_at_call 12; (with_reducible refine (clone_any w.heap.size A 0 0 [] w1 (by have := hb0.size; have := hb1.size; omega) (R0 w1) R1 (by omega)).mono ?_); rintro e w2 ⟨v2, rfl, hown2, hb2⟩; obtain ⟨A2, c2, rfl, hc2, hc2'⟩ := own_form hown2))
    go_ret3
    have q0 := hb0.size
    have q1 := hb1.size
    exact paged_of (nx := []) (page_last H.out (.inr ⟨hk1, hk2, HK.out⟩) h1 (by omega)) (own_keep hown2 (Below.refl _ _) (by omega)) (by rw [List.drop_of_length_le (by have := H.out; omega)]; rfl)
      ((hb0.trans (hb1.mono (by omega))).trans (hb2.mono (by omega)))
  · have HR := (hr.cut (cap := c) (k := k) (by omega) hc)
    rw [if_neg hck] at HR
    by_cases h2 : (m : Int) < (len : Int) - k
    · go_enter Tryz.func6, Tryz.ntmps6
      go_wp2_with (first
        | (go_at_call 10; (with_reducible refine (atoi_b (b :: r) hbl k HA.out w).mono ?_); rintro e w0 ⟨rfl, hb0⟩)
        | (go_at_call 11; (with_reducible refine (itoa_b k (by omega) w0 (hv.below hb0 hG).tab).mono ?_); rintro e w1 ⟨rfl, hb1⟩)
        | (go_at_call 12; (with_reducible refine (clone_any w.heap.size (Option.map (fun x => x.add k) A) (len - k) (c - k) _ w1 (by have := hb0.size; have := hb1.size; omega) ((HR.below hb0).below (hb1.mono hb0.size)) (drop_one HL) (by omega)).mono ?_); rintro e w2 ⟨v2, rfl, hown2, hb2⟩; obtain ⟨A2, c2, rfl, hc2, hc2'⟩ := own_form hown2)
        | (go_at_call 12; (with_reducible refine (clone_any w2.heap.size A2 m c2 _ w2 (Nat.le_refl _) ((Rd.of_own hown2).take (k := m) (by omega)) (take_one (drop_one HL)) (by omega)).mono ?_); rintro e w3 ⟨v3, rfl, hown3, hb3⟩)
        | (go_at_call 11; (with_reducible refine (itoa_add k m (by omega) w3 ((((hv.below hb0 hG).below hb1 (by have := hb0.size; omega)).below hb2 (by have := hb0.size; have := hb1.size; omega)).below hb3 (by have := hb0.size; have := hb1.size; have := hb2.size; omega)).tab).mono ?_); rintro e w4 ⟨rfl, hb4⟩))
      go_ret3
      have q0 := hb0.size
      have q1 := hb1.size
      have q2 := hb2.size
      have q3 := hb3.size
      exact paged_of (nx := decDigits (k + m)) (page_mid H.out (.inr ⟨hk1, hk2, HK.out⟩) h1 (by omega)) (own_keep hown3 hb4 (by omega)) (by simp [List.map_drop, List.map_take])
        ((((hb0.trans (hb1.mono (by omega))).trans (hb2.mono (by omega))).trans (hb3.mono (by omega))).trans (hb4.mono (by omega)))
    · go_enter Tryz.func6, Tryz.ntmps6
      go_wp2_with (first
        | (go_at_call 10; (with_reducible refine (atoi_b (b :: r) hbl k HA.out w).mono ?_); rintro e w0 ⟨rfl, hb0⟩)
        | (go_at_call 11; (with_reducible refine (itoa_b k (by omega) w0 (hv.below hb0 hG).tab).mono ?_); rintro e w1 ⟨rfl, hb1⟩)
        | (go_at_call 12; (with_reducible refine (clone_any w.heap.size (Option.map (fun x => x.add k) A) (len - k) (c - k) _ w1 (by have := hb0.size; have := hb1.size; omega) ((HR.below hb0).below (hb1.mono hb0.size)) (drop_one HL) (by omega)).mono ?_); rintro e w2 ⟨v2, rfl, hown2, hb2⟩; obtain ⟨A2, c2, rfl, hc2, hc2'⟩ := own_form hown2))
      go_ret3
      have q0 := hb0.size
      have q1 := hb1.size
      exact paged_of (nx := []) (page_last H.out (.inr ⟨hk1, hk2, HK.out⟩) h1 (by omega)) (own_keep hown2 (Below.refl _ _) (by omega)) (by simp [List.map_drop])
        ((hb0.trans (hb1.mono (by omega))).trans (hb2.mono (by omega)))

theorem atoi_bad (l : List UInt8) (hl : l.length ≤ 281474976710656) (h : ∀ v, atoiAll l ≠ .ok v) (w : World) (hv : Vars w) :
    Calls Tryz.prog 10 #[.string ⟨l.toArray⟩] w fun e w' => ∃ (N : Nat) (k : Int), e = .returned (.tuple #[.int .i64 k, .iface 102 (.pointer (some ⟨N, 0, none⟩))]) ∧ Below w.heap.size w w' := by
  obtain ⟨tp, p, hs⟩ := hv.syn
  obtain ⟨tq, q, hg⟩ := hv.rng
  cases ha : atoiAll l with
  | ok v => exact absurd ha (h v)
  | «syntax» => exact (atoi_syntax ⟨l.toArray⟩ hl ha tp p w hs).mono fun e w' ⟨N, h1, h2⟩ => ⟨N, 0, h1, h2⟩
  | range => exact (atoi_range ⟨l.toArray⟩ hl ha tq q w hg)
set_option maxRecDepth 100000 in
set_option maxHeartbeats 1600000 in
theorem rankPage_no (A : Option Addr) (len c : Nat) (xs : List Int) (b : UInt8) (r : List UInt8) (m : Nat) (w : World) (hx : xs.length = len)
    (hlen : len * 8 ≤ 140737488351232) (hbl : (b :: r).length ≤ 140737488351232) (h1 : 1 ≤ m) (hn1 : m ≤ 9223372036854775807) (hno : ∀ i, ¬ OkAt xs.length (b :: r) i) (hv : Vars w) (hG : 10 ≤ w.heap.size) :
    Calls Tryz.prog 6 #[.slice A len c, .string ⟨(b :: r).toArray⟩, .int .i64 m] w (Paged w.heap.size xs (b :: r) m w) := by
  have H := Lib.hid hx
  have HN := Lib.hid hno
  clear hx hno
  by_cases hex : ∃ v, atoiAll (b :: r) = .ok v
  · obtain ⟨v, ha⟩ := hex
    have HA := Lib.hid ha
    clear ha
    by_cases h2 : v < 1
    · go_enter Tryz.func6, Tryz.ntmps6
      go_wp2_with (first
        | (go_at_call 10; (with_reducible refine (atoi_b (b :: r) (by omega) v HA.out w).mono ?_); rintro e w0 ⟨rfl, hb0⟩))
      go_ret3
      exact paged_err (by omega) HN.out hb0
    · by_cases h3 : (len : Int) < v
      · go_enter Tryz.func6, Tryz.ntmps6
        go_wp2_with (first
          | (go_at_call 10; (with_reducible refine (atoi_b (b :: r) (by omega) v HA.out w).mono ?_); rintro e w0 ⟨rfl, hb0⟩))
        go_ret3
        exact paged_err (by omega) HN.out hb0
      · obtain ⟨k, rfl⟩ : ∃ k : Nat, v = k := ⟨v.toNat, by omega⟩
        have hk1 : 1 ≤ k := by omega
        have hk2 : k ≤ len := by omega
        have h7 : (decDigits k == b :: r) = false := by
          have := HN.out k
          cases hq : (decDigits k == b :: r) with
          | false => rfl
          | true => exact absurd (.inr ⟨hk1, by have := H.out; omega, (eq_of_beq hq).symm⟩) this
        clear h2 h3
        go_enter Tryz.func6, Tryz.ntmps6
        go_wp2_with (first
          | (go_at_call 10; (with_reducible refine (atoi_b (b :: r) (by omega) k HA.out w).mono ?_); rintro e w0 ⟨rfl, hb0⟩)
          | (go_at_call 11; (with_reducible refine (itoa_b k (by omega) w0 (hv.below hb0 hG).tab).mono ?_); rintro e w1 ⟨rfl, hb1⟩))
        go_ret3
        exact paged_err (by omega) HN.out (hb0.trans (hb1.mono hb0.size))
  · have HX := Lib.hid (fun v e => hex ⟨v, e⟩ : ∀ v, atoiAll (b :: r) ≠ .ok v)
    clear hex
    go_enter Tryz.func6, Tryz.ntmps6
    go_wp2_with (first
        | (go_at_call 10; (with_reducible refine (atoi_bad (b :: r) (by omega) HX.out w hv).mono ?_); rintro e w0 ⟨N, k, rfl, hb0⟩))
    go_ret3
    exact paged_err (by omega) HN.out hb0
end Go.Proofs.YtkidamemnogojabGreatDoor
