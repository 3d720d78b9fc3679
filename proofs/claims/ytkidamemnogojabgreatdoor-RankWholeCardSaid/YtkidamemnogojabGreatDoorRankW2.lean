/-
  rosterref22.Page: what a page is.
-/
import Derived.Test.YtkidamemnogojabGreatDoorRankW1
namespace Go.Proofs.YtkidamemnogojabGreatDoor
open Go.RowKit Go.RankLaw Go.Lib

theorem info26 : (Tryz.prog.info? 26).map (fun i => (i.zero, i.size, i.bytes)) = some (some (.int .u64 0), 1, 8) := by kernel_rfl
def Paged (B : Nat) (xs : List Int) (s : List UInt8) (n : Int) (w : World) (e : Ending) (w' : World) : Prop :=
  ∃ (ys : List Int) (nx : List UInt8) (er : Int) (v : Value), IsPage xs s n ys nx er ∧ e = .returned (.tuple #[v, .string ⟨nx.toArray⟩, .int .i64 er]) ∧
    w'.ownsRow B 26 1 v ys.length (ys.map (Value.int .u64)) ∧ Below B w w'

theorem paged_of {B : Nat} {xs ys : List Int} {s nx : List UInt8} {n : Int} {w w' : World} {v : Value} {m : Nat} {L : List Value} (hp : IsPage xs s n ys nx 0) (hown : w'.ownsRow B 26 1 v m L) (hL : L = ys.map (Value.int .u64)) (hb : Below B w w') :
    Paged B xs s n w (.returned (.tuple #[v, .string ⟨nx.toArray⟩, .int .i64 0])) w' := by
  subst hL
  have e : m = ys.length := by have := hown.1; simpa using this.symm
  subst e
  exact ⟨ys, nx, 0, v, hp, rfl, hown, hb⟩
theorem paged_err {B : Nat} {xs : List Int} {s : List UInt8} {n : Int} {w w' : World} (h1 : 1 ≤ n) (h : ∀ i, ¬ OkAt xs.length s i) (hb : Below B w w') :
    Paged B xs s n w (.returned (.tuple #[.slice none 0 0, .string ⟨#[]⟩, .int .i64 221])) w' :=
  ⟨[], [], 221, _, .inr (.inl ⟨h1, h, rfl, rfl, rfl⟩), rfl, World.ownsRow_nil _ _ _ _, hb⟩
theorem u64s_one (zs : List Value) (xs : List Int) (h : ∀ u ∈ zs, u ∈ xs.map (Value.int .u64)) : ∀ u ∈ zs, u.oneCell' = true := fun u hu => ints_oneCell _ _ u (h u hu)
theorem page_mid {xs : List Int} {l : List UInt8} {m k len : Nat} (hx : xs.length = len) (hk : OkAt len l k) (h1 : 1 ≤ m) (h2 : (m : Int) < (len : Int) - k) : IsPage xs l m ((xs.drop k).take m) (decDigits (k + m)) 0 := by
  subst hx
  exact .inr (.inr ⟨by omega, k, hk, rfl, .inl ⟨h2, by simp, by simp⟩⟩)
theorem page_last {xs : List Int} {l : List UInt8} {m k len : Nat} (hx : xs.length = len) (hk : OkAt len l k) (h1 : 1 ≤ m) (h2 : ¬ (m : Int) < (len : Int) - k) : IsPage xs l m (xs.drop k) [] 0 := by
  subst hx
  exact .inr (.inr ⟨by omega, k, hk, rfl, .inr ⟨by omega, rfl, rfl⟩⟩)
/-- The part from place k on, at most m long. -/
theorem Rd.part {w : World} {B len c k m : Nat} {A : Option Addr} {xs : List Value} (h : Rd w B A len xs) (hk : k + m ≤ len) (hc : len ≤ c) : Rd w B (if c = k then A else A.map (·.add k)) m ((xs.drop k).take m) :=
  (h.cut (cap := c) (k := k) (by omega) hc).take (by omega)

theorem digits_add (a b : Nat) (w : World) (h : a + b ≤ 9223372036854775807) :
    Calls Tryz.prog 9 #[.int .i64 ((a : Int) + (b : Int))] w fun e w' => e = .returned (.string ⟨(decDigits (a + b)).toArray⟩) ∧ Below w.heap.size w w' := by
  rw [← Int.natCast_add]
  exact digits_any (a + b) (a + b) w (Nat.le_refl _) h
set_option maxRecDepth 100000 in
set_option maxHeartbeats 1600000 in
theorem refPage_any (B : Nat) (A : Option Addr) (len c : Nat) (xs : List Int) (l : List UInt8) (n : Int) (w : World) (hB : B = w.heap.size) (hr : Rd w B A len (xs.map (Value.int .u64))) (hx : xs.length = len) (hc : len ≤ c) (hc2 : c ≤ 9223372036854775807)
    (hlen : len * 8 ≤ 140737488351232) (hn0 : -9223372036854775808 ≤ n) (hn1 : n ≤ 9223372036854775807) :
    Calls Tryz.prog 5 #[.slice A len c, .string ⟨l.toArray⟩, .int .i64 n] w (Paged B xs l n w) := by
  have H := Lib.hid hx
  have HB := Lib.hid hB
  clear hx hB
  obtain ⟨i0, hi, hz0, hz1, hz2⟩ := info_parts info26
  by_cases h1 : n < 1
  · go_enter Tryz.func5, Tryz.ntmps5
    go_wp2_with fail
    go_ret3
    exact ⟨[], [], 2, _, .inl ⟨h1, rfl, rfl, rfl⟩, rfl, World.ownsRow_nil _ _ _ _, Below.refl _ _⟩
  · have h1' : 1 ≤ n := by omega
    clear h1
    obtain ⟨m, rfl⟩ : ∃ m : Nat, n = m := ⟨n.toNat, by omega⟩
    have h1 : 1 ≤ m := by omega
    clear h1'
    go_enter Tryz.func5, Tryz.ntmps5
    go_wp2_with fail
    go_loopw [9] (fun a wr => ∃ k : Nat, k ≤ len + 1 ∧ a = .int .i64 k ∧ (l = [] → k = 0) ∧ (∀ j, 1 ≤ j → j < k → decDigits j ≠ l) ∧ Below B w wr) (fun a _ => len + 1 - (RowKit.intOf a).toNat)
    case atStart => exact ⟨0, by omega, rfl, fun _ => rfl, fun j _ h => absurd h (by omega), Below.refl _ _⟩
    case round =>
      obtain ⟨k, hk, rfl, hk0, hkn, hb⟩ := hrel
      have HK := Lib.hid hkn
      clear hkn
      cases l with
      | nil =>
        have e := hk0 rfl
        subst e
        clear hk0

        by_cases h2 : (m : Int) < (len : Int) - 0
        · go_wp2_with (first
            | (go_at_call 9; (with_reducible refine (digits_any m m _ (Nat.le_refl _) (by omega)).mono ?_); rintro e w2 ⟨rfl, hb2⟩)
            | (at_builtin; refine wpList_append_rd _ rfl (.tmp 52) (.tmp 56) _ rfl B 26 i0 _ 8 Tryz.underlying22 hi hz0 hz1 hz2 rfl (.slice none 0 0) 0 [] rfl (World.ownsRow_nil _ _ _ _) B _ m _ (((xs.map (Value.int .u64)).drop 0).take m) rfl ?r1a ?r2a ?r3a ?r4a ?r5a ?_))
          case r1a => first | exact ((hr.below hb).below (hb2.mono (by have := hb.size; have := HB.out; omega))).take (by omega) | exact Rd.part ((hr.below hb).below (hb2.mono (by have := hb.size; have := HB.out; omega))) (by omega) hc
          case r2a => exact u64s_one _ xs fun u hu => List.mem_of_mem_drop (List.mem_of_mem_take hu)
          case r3a => unfold maxLen; omega
          case r4a => omega
          case r5a => have := hb2.size; have := hb.size; have := HB.out; omega
          intro v' w3 hown hgrow _
          go_wp2_with fail
          go_ret3
          exact paged_of (nx := decDigits m) (by simpa using page_mid (k := 0) H.out (.inl ⟨rfl, rfl⟩) h1 (by omega)) hown (by simp [List.map_take]) ((hb.trans (hb2.mono (by have := hb.size; have := HB.out; omega))).grown hgrow (by have := hb2.size; have := hb.size; have := HB.out; omega) (fun g hg => by simp [Value.ownBlock] at hg))
        · go_wp2_with (first
            | (at_builtin; refine wpList_append_rd _ rfl (.tmp 52) (.tmp 56) _ rfl B 26 i0 _ 8 Tryz.underlying22 hi hz0 hz1 hz2 rfl (.slice none 0 0) 0 [] rfl (World.ownsRow_nil _ _ _ _) B _ (len - 0) _ (((xs.map (Value.int .u64)).drop 0)) rfl ?s1a ?s2a ?s3a ?s4a ?s5a ?_))
          case s1a => first | exact (hr.below hb) | exact (hr.below hb).cut (by omega) hc
          case s2a => first | exact u64s_one _ xs fun u hu => List.mem_of_mem_drop hu | exact fun _ _ => rfl
          case s3a => unfold maxLen; omega
          case s4a => omega
          case s5a => have := hb.size; have := HB.out; omega
          intro v' w3 hown hgrow _
          go_wp2_with fail
          go_ret3
          exact paged_of (nx := []) (by simpa using page_last (k := 0) H.out (.inl ⟨rfl, rfl⟩) h1 (by omega)) hown (by simp) (hb.grown hgrow (by have := hb.size; have := HB.out; omega) (fun g hg => by simp [Value.ownBlock] at hg))
      | cons b r =>
        clear hk0
        by_cases h3 : (len : Int) < k
        · go_wp2_with fail
          go_ret3
          refine paged_err (by omega) (fun i hi' => ?_) hb
          rcases hi' with ⟨h, _⟩ | ⟨i1, i2, i3⟩
          · cases h
          · exact HK.out i i1 (by have := H.out; omega) i3.symm
        · by_cases h5 : k = 0
          · subst h5
            go_wp2_with fail
            go_roundw
            case rel => exact ⟨1, by omega, rfl, fun h => (List.cons_ne_nil _ _ h).elim, fun j i1 i2 => absurd i1 (by omega), hb⟩
            case measure => simp [RowKit.intOf]
          · have h6 : ((k : Int) == 0) = false := by simp; omega
            have hk1 : 1 ≤ k := by omega
            clear h5
            by_cases h4 : decDigits k = b :: r
            · have h7 : (decDigits k == b :: r) = true := by simp [h4]
              have H4 := Lib.hid h4
              clear h4 HK
              by_cases hck : c = k
              · by_cases h2 : (m : Int) < (len : Int) - k
                · exfalso; omega
                · go_wp2_with (first
                    | (go_at_call 9; (with_reducible refine (digits_any k k _ (Nat.le_refl _) (by omega)).mono ?_); rintro e w1 ⟨rfl, hb1⟩)
                    | (at_builtin; refine wpList_append_rd _ rfl (.tmp 52) (.tmp 56) _ rfl B 26 i0 _ 8 Tryz.underlying22 hi hz0 hz1 hz2 rfl (.slice none 0 0) 0 [] rfl (World.ownsRow_nil _ _ _ _) B _ (len - k) _ (((xs.map (Value.int .u64)).drop k)) rfl ?s1b ?s2b ?s3b ?s4b ?s5b ?_))
                  case s1b =>
                    have h := (hr.below (hb.trans (hb1.mono (by have := hb.size; have := HB.out; omega)))).cut (cap := c) (k := k) (by omega) hc
                    rw [if_pos hck] at h
                    exact h
                  case s2b => first | exact u64s_one _ xs fun u hu => List.mem_of_mem_drop hu | exact fun _ _ => rfl
                  case s3b => unfold maxLen; omega
                  case s4b => omega
                  case s5b => have := (hb.trans (hb1.mono (by have := hb.size; have := HB.out; omega))).size; have := HB.out; omega
                  intro v' w3 hown hgrow _
                  go_wp2_with fail
                  go_ret3
                  exact paged_of (nx := []) (page_last H.out (.inr ⟨by omega, by omega, H4.out.symm⟩) h1 (by omega)) hown (by simp [List.map_drop]) ((hb.trans (hb1.mono (by have := hb.size; have := HB.out; omega))).grown hgrow (by have := (hb.trans (hb1.mono (by have := hb.size; have := HB.out; omega))).size; have := HB.out; omega) (fun g hg => by simp [Value.ownBlock] at hg))
              · by_cases h2 : (m : Int) < (len : Int) - k
                · go_wp2_with (first
                    | (go_at_call 9; (with_reducible refine (digits_any k k _ (Nat.le_refl _) (by omega)).mono ?_); rintro e w1 ⟨rfl, hb1⟩)
                    | (go_at_call 9; (with_reducible refine (digits_add k m _ (by omega)).mono ?_); rintro e w2 ⟨rfl, hb2⟩)
                    | (at_builtin; refine wpList_append_rd _ rfl (.tmp 52) (.tmp 56) _ rfl B 26 i0 _ 8 Tryz.underlying22 hi hz0 hz1 hz2 rfl (.slice none 0 0) 0 [] rfl (World.ownsRow_nil _ _ _ _) B _ _ _ (((xs.map (Value.int .u64)).drop k).take m) rfl ?r1c ?r2c ?r3c ?r4c ?r5c ?_))
                  case r1c =>
                    have h := Rd.part (k := k) (m := m) ((hr.below (hb.trans (hb1.mono (by have := hb.size; have := HB.out; omega)))).below (hb2.mono (by have := hb1.size; have := hb.size; have := HB.out; omega))) (by omega) hc
                    rw [if_neg hck] at h
                    rw [show k + m - k = m by omega]; exact h
                  case r2c => exact u64s_one _ xs fun u hu => List.mem_of_mem_drop (List.mem_of_mem_take hu)
                  case r3c => unfold maxLen; omega
                  case r4c => omega
                  case r5c => have := hb2.size; have := (hb.trans (hb1.mono (by have := hb.size; have := HB.out; omega))).size; have := HB.out; omega
                  intro v' w3 hown hgrow _
                  go_wp2_with fail
                  go_ret3
                  exact paged_of (nx := decDigits (k + m)) (page_mid H.out (.inr ⟨by omega, by omega, H4.out.symm⟩) h1 (by omega)) hown (by simp [List.map_drop, List.map_take]) (((hb.trans (hb1.mono (by have := hb.size; have := HB.out; omega))).trans (hb2.mono (by have := (hb.trans (hb1.mono (by have := hb.size; have := HB.out; omega))).size; have := HB.out; omega))).grown hgrow (by have := hb2.size; have := (hb.trans (hb1.mono (by have := hb.size; have := HB.out; omega))).size; have := HB.out; omega) (fun g hg => by simp [Value.ownBlock] at hg))
                · go_wp2_with (first
                    | (go_at_call 9; (with_reducible refine (digits_any k k _ (Nat.le_refl _) (by omega)).mono ?_); rintro e w1 ⟨rfl, hb1⟩)
                    | (at_builtin; refine wpList_append_rd _ rfl (.tmp 52) (.tmp 56) _ rfl B 26 i0 _ 8 Tryz.underlying22 hi hz0 hz1 hz2 rfl (.slice none 0 0) 0 [] rfl (World.ownsRow_nil _ _ _ _) B _ (len - k) _ (((xs.map (Value.int .u64)).drop k)) rfl ?s1c ?s2c ?s3c ?s4c ?s5c ?_))
                  case s1c =>
                    have h := (hr.below (hb.trans (hb1.mono (by have := hb.size; have := HB.out; omega)))).cut (cap := c) (k := k) (by omega) hc
                    rw [if_neg hck] at h
                    exact h
                  case s2c => first | exact u64s_one _ xs fun u hu => List.mem_of_mem_drop hu | exact fun _ _ => rfl
                  case s3c => unfold maxLen; omega
                  case s4c => omega
                  case s5c => have := (hb.trans (hb1.mono (by have := hb.size; have := HB.out; omega))).size; have := HB.out; omega
                  intro v' w3 hown hgrow _
                  go_wp2_with fail
                  go_ret3
                  exact paged_of (nx := []) (page_last H.out (.inr ⟨by omega, by omega, H4.out.symm⟩) h1 (by omega)) hown (by simp [List.map_drop]) ((hb.trans (hb1.mono (by have := hb.size; have := HB.out; omega))).grown hgrow (by have := (hb.trans (hb1.mono (by have := hb.size; have := HB.out; omega))).size; have := HB.out; omega) (fun g hg => by simp [Value.ownBlock] at hg))
            · have h7 : (decDigits k == b :: r) = false := by simpa using h4
              have H4 := Lib.hid h4
              clear h4
              go_wp2_with (go_at_call 9; (with_reducible refine (digits_any k k _ (Nat.le_refl _) (by omega)).mono ?_); rintro e w2 ⟨rfl, hb2⟩)
              go_roundw
              case rel =>
                refine ⟨k + 1, by omega, by go_num, fun h => (List.cons_ne_nil _ _ h).elim, fun j i1 i2 => ?_, hb.trans (hb2.mono (by have := hb.size; have := HB.out; omega))⟩
                by_cases e : j = k
                · rw [e]; exact H4.out
                · exact HK.out j i1 (by omega)
              case measure => simp [RowKit.intOf]; omega
end Go.Proofs.YtkidamemnogojabGreatDoor
