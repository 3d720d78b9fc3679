/-
  rosterref22: digits, Page: what they make.
-/
import Derived.Test.YtkidamemnogojabGreatDoorRankLaw
import Derived.Test.YtkidamemnogojabGreatDoorRankWords
import Derived.Test.YtkidamemnogojabGreatDoorRankLay
import Derived.WalkKit
import Derived.Outline
import Derived.Lib.Hide
namespace Go.Proofs.YtkidamemnogojabGreatDoor
open Go.RowKit Go.RankLaw Go.Lib

theorem digit_cv (n : Nat) (w : World) : (convert 62 9 (.slice (some ⟨w.heap.size, 0, none⟩) 1 1)).run Tryz.prog (w.alloc (.cells #[.int .u8 (48 + (n : Int) % 10)] 5)) =
    .ok (.string ⟨#[UInt8.ofNat (48 + n % 10)]⟩) (w.alloc (.cells #[.int .u8 (48 + (n : Int) % 10)] 5)) := by
  have h := run_convert_bytes_back (P := Tryz.prog) (w.alloc (.cells #[.int .u8 (48 + (n : Int) % 10)] 5)) 62 9 5 ⟨w.heap.size, 0, none⟩ 1 [UInt8.ofNat (48 + n % 10)] Tryz.underlying62 Tryz.underlying5 Tryz.underlying9 (fun j hj => by
    simp only [List.length_singleton] at hj
    obtain rfl : j = 0 := by omega
    have e : (UInt8.ofNat (48 + n % 10)).toNat = 48 + n % 10 := digit_nat (by omega)
    simp only [List.getElem_cons_zero, e]
    simp [Addr.add])
  simpa using h

theorem dec_len (u : Nat) : (decDigits u).length ≤ u + 1 := by
  induction u using Nat.strongRecOn with
  | ind u ih =>
    by_cases h : u < 10
    · rw [decDigits_one h]; simp
    · rw [dec_ten h, List.length_append]
      have := ih (u / 10) (by omega)
      simp only [List.length_singleton]; omega
theorem digit_join {n : Nat} (h : ¬ n < 10) : ((⟨(decDigits (n / 10)).toArray⟩ : ByteArray) ++ (⟨#[48 + UInt8.ofNat (n % 10)]⟩ : ByteArray)) = ⟨(decDigits n).toArray⟩ := by
  apply ByteArray.ext
  rw [ByteArray.data_append, dec_ten h]
  simp [UInt8.ofNat_add]
theorem digit_one {n : Nat} (h : n < 10) : (⟨#[48 + UInt8.ofNat (n % 10)]⟩ : ByteArray) = ⟨(decDigits n).toArray⟩ := by
  rw [decDigits_one h, Nat.mod_eq_of_lt h]
  simp [UInt8.ofNat_add]

set_option maxRecDepth 100000 in
set_option maxHeartbeats 400000 in
theorem digits_any (k : Nat) : ∀ (n : Nat) (w : World), n ≤ k → n ≤ 9223372036854775807 →
    Calls Tryz.prog 9 #[.int .i64 n] w fun e w' => e = .returned (.string ⟨(decDigits n).toArray⟩) ∧ Below w.heap.size w w' := by
  have small : ∀ (n : Nat) (w : World), n < 10 → Calls Tryz.prog 9 #[.int .i64 n] w fun e w' => e = .returned (.string ⟨(decDigits n).toArray⟩) ∧ Below w.heap.size w w' := by
    intro n w hn
    have hcv := digit_cv n w
    have h10 : (n : Int) < 10 := by omega
    rw [← digit_one hn]
    go_enter Tryz.func9, Tryz.ntmps9
    go_wp2_with fail
    go_ret
    exact ⟨rfl, (Below.refl _ _).alloc (Nat.le_refl _) _⟩
  induction k with
  | zero => exact fun n w hk _ => small n w (by omega)
  | succ k ih =>
    intro n w hk hm
    by_cases hn : n < 10
    · exact small n w hn
    · have hcv := digit_cv n w
      have h10 : (10 : Int) ≤ n := by omega
      have hl : (decDigits (n / 10)).length + 1 ≤ 9223372036854775807 := by have := dec_len (n / 10); omega
      rw [← digit_join hn]
      go_enter Tryz.func9, Tryz.ntmps9
      go_wp2_with (go_at_call 9; refine (ih (n / 10) _ (by omega) (by omega)).mono ?_; rintro e w' ⟨rfl, hb⟩)
      go_ret
      exact ⟨rfl, ((Below.refl _ _).alloc (Nat.le_refl _) _).trans (hb.mono (by simp))⟩
end Go.Proofs.YtkidamemnogojabGreatDoor
