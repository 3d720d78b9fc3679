/-
  rank.Page of whatever arguments; rosterref04.Same of two lists that are the same.
-/
import Derived.Test.YtkidamemnogojabGreatDoorRankW3
import Derived.Deep.QuietTactic
import Derived.BigQuiet
namespace Go.Proofs.YtkidamemnogojabGreatDoor
open Go.RowKit Go.RankLaw Go.Lib

set_option maxRecDepth 100000 in
theorem rankPage_small (A : Option Addr) (len c : Nat) (xs : List Int) (l : List UInt8) (n : Int) (w : World) (h1 : n < 1) :
    Calls Tryz.prog 6 #[.slice A len c, .string ⟨l.toArray⟩, .int .i64 n] w (Paged w.heap.size xs l n w) := by
  go_enter Tryz.func6, Tryz.ntmps6
  go_wp2_with fail
  go_ret3
  exact ⟨[], [], 2, _, .inl ⟨h1, rfl, rfl, rfl⟩, rfl, World.ownsRow_nil _ _ _ _, Below.refl _ _⟩

theorem rankPage_any (A : Option Addr) (len c : Nat) (xs : List Int) (l : List UInt8) (n : Int) (w : World) (hr : Rd w w.heap.size A len (xs.map (Value.int .u64))) (hx : xs.length = len) (hc : len ≤ c) (hc2 : c ≤ 9223372036854775807)
    (hlen : len * 8 ≤ 140737488351232) (hbl : l.length ≤ 140737488351232) (hn0 : -9223372036854775808 ≤ n) (hn1 : n ≤ 9223372036854775807) (hv : Vars w) (hG : 10 ≤ w.heap.size) :
    Calls Tryz.prog 6 #[.slice A len c, .string ⟨l.toArray⟩, .int .i64 n] w (Paged w.heap.size xs l n w) := by
  by_cases h1 : n < 1
  · exact rankPage_small A len c xs l n w h1
  · obtain ⟨m, rfl⟩ : ∃ m : Nat, n = m := ⟨n.toNat, by omega⟩
    cases l with
    | nil => exact rankPage_nil A len c xs m w hr hx hc hc2 hlen (by omega) (by omega) hv hG
    | cons b r =>
      by_cases hex : ∃ i, OkAt xs.length (b :: r) i
      · obtain ⟨i, hi⟩ := hex
        rcases hi with ⟨h, _⟩ | ⟨i1, i2, i3⟩
        · cases h
        · exact rankPage_at A len c xs b r i m w hr hx hc hc2 hlen (by omega) (by omega) i1 (by omega) i3 hv hG
      · exact rankPage_no A len c xs b r m w hx hlen hbl (by omega) (by omega) (fun i hi => hex ⟨i, hi⟩) hv hG

set_option maxRecDepth 100000 in
set_option maxHeartbeats 800000 in
theorem same_true (B : Nat) (A A' : Option Addr) (n c c' : Nat) (xs : List Int) (w : World) (hr : Rd w B A n (xs.map (Value.int .u64))) (hr' : Rd w B A' n (xs.map (Value.int .u64))) (hlen : n * 8 ≤ 140737488351232) :
    Calls Tryz.prog 7 #[.slice A n c, .slice A' n c'] w fun e w' => e = .returned (.bool true) ∧ ∃ k, w' = w.drewN k := by
  go_enter Tryz.func7, Tryz.ntmps7
  go_wp2_with fail
  go_loopw [5] (fun i wr => ∃ k : Nat, k ≤ n ∧ i = .int .i64 k ∧ ∃ q, wr = w.drewN q) (fun i _ => n - (RowKit.intOf i).toNat)
  case atStart => exact ⟨0, by omega, rfl, 0, rfl⟩
  case round =>
    obtain ⟨k, hk, rfl, q, rfl⟩ := hrel
    by_cases hlt : k < n
    · obtain ⟨ad, u, rfl, _, hu, hc⟩ := hr.cell hlt
      obtain ⟨ad', u', rfl, _, hu', hc'⟩ := hr'.cell hlt
      rw [hu] at hu'
      simp only [Option.some.injEq] at hu'
      subst hu'
      obtain ⟨z, rfl⟩ : ∃ z, u = .int .u64 z := by
        rw [List.getElem?_map] at hu
        cases hz : xs[k]? with
        | none => rw [hz] at hu; cases hu
        | some z => rw [hz] at hu; simp only [Option.map_some, Option.some.injEq] at hu; exact ⟨z, hu.symm⟩
      clear hu
      go_wp2_with fail
      go_quiet (fail)
      go_wp2_with fail
      go_roundw
      case rel => exact ⟨k + 1, by omega, by go_num, _, rfl⟩
      case measure => simp [RowKit.intOf]; omega
    · go_wp2_with fail
      go_ret
      exact ⟨rfl, q, rfl⟩
end Go.Proofs.YtkidamemnogojabGreatDoor
