/-
  The document's words and descriptions (rosterref03, rosterref09): what they compute.
 rosterref03.Word, rosterref09.Desc: what they compute.
 rosterref09.Desc, rosterref03.Small: what they compute.
 rosterref03.Small: a text with its letters small.
-/
import Derived.Test.YtdkfmckbeagenaaGreatDoorQB2
import Derived.Deep.Light
import Derived.Deep.OwnRows
import Derived.Laws.MakeOwn
import Derived.Laws.IdiomStrings
namespace Go.Proofs.YtdkfmckbeagenaaGreatDoor
open Go.RowKit Go.FltLaw Go.Lib

theorem letter_r (c : UInt8) (w : World) : Calls Tryz.prog 124 #[.int .u8 c.toNat] w fun e w' => ∃ x, Hid (FltLaw.letter c = x) ∧ e = .returned (.bool x) ∧ w = w' := by
 refine some_bool (b := FltLaw.letter c) ?_
 go_enter Tryz.func124, Tryz.ntmps124
 go_wp2
 all_goals
  go_ret
  exact ⟨ret_bool (by simp [FltLaw.letter]; omega), rfl⟩
theorem digit_r (c : UInt8) (w : World) : Calls Tryz.prog 125 #[.int .u8 c.toNat] w fun e w' => ∃ x, Hid (FltLaw.digit c = x) ∧ e = .returned (.bool x) ∧ w = w' := by
 refine some_bool (b := FltLaw.digit c) ?_
 go_enter Tryz.func125, Tryz.ntmps125
 go_wp2
 all_goals
  go_ret
  exact ⟨ret_bool (by simp [FltLaw.digit]; omega), rfl⟩
set_option maxHeartbeats 400000 in
set_option maxRecDepth 100000 in
theorem digits_r (l : List UInt8) (w : World) (hl : l.length ≤ 9223372036854775807) :
  Calls Tryz.prog 126 #[.string ⟨l.toArray⟩] w fun e w' => ∃ x, Hid (allOf FltLaw.digit l = x) ∧ e = .returned (.bool x) ∧ w = w' := by
 refine some_bool (b := allOf FltLaw.digit l) ?_
 go_enter Tryz.func126, Tryz.ntmps126
 go_wp2_with fail
 go_loop [3] (fun i => ∃ k : Nat, k ≤ l.length ∧ i = .int .i64 k ∧ (l.take k).all FltLaw.digit = true) (fun i => l.length - (RowKit.intOf i).toNat)
 case atStart => exact ⟨0, Nat.zero_le _, rfl, rfl⟩
 case round =>
  obtain ⟨k, hk, rfl, hall⟩ := hrel
  have HA := Lib.hid hall
  clear hall
  by_cases hlt : k < l.length
  ·go_wp2_with (go_at_call 125; (with_reducible refine (digit_r _ w).mono ?_); rintro e w' ⟨b, HB, rfl, rfl⟩)
   ·have hb : (!b) = true := by assumption
    go_ret
    exact ⟨ret_bool (by rw [all_stop hlt (HB.out.trans (by simpa using hb))]), rfl⟩
   ·have hb : (!b) = false := by assumption
    go_round
    case rel => exact ⟨k + 1, by omega, by go_num, by rw [all_take HA.out hlt]; exact HB.out.trans (by simpa using hb)⟩
    case measure => simp [RowKit.intOf]; omega
  ·go_wp2_with fail
   go_ret
   have e : l.take k = l := List.take_of_length_le (by omega)
   rw [e] at HA
   exact ⟨ret_bool (by simp [allOf, HA.out]; cases l <;> simp), rfl⟩
theorem wordy_yes {c : UInt8} (h : (97 ≤ (c.toNat : Int) ∧ (c.toNat : Int) ≤ 122) ∨ (65 ≤ (c.toNat : Int) ∧ (c.toNat : Int) ≤ 90) ∨ (48 ≤ (c.toNat : Int) ∧ (c.toNat : Int) ≤ 57) ∨ (c.toNat : Int) = 45) : FltLaw.wordy c = true := by
 simp [FltLaw.wordy, FltLaw.letter, FltLaw.digit, ← UInt8.toNat_inj]; omega
theorem wordy_no {c : UInt8} (h : ¬ ((97 ≤ (c.toNat : Int) ∧ (c.toNat : Int) ≤ 122) ∨ (65 ≤ (c.toNat : Int) ∧ (c.toNat : Int) ≤ 90) ∨ (48 ≤ (c.toNat : Int) ∧ (c.toNat : Int) ≤ 57) ∨ (c.toNat : Int) = 45)) : FltLaw.wordy c = false := by
 rw [← Bool.not_eq_true]
 simp [FltLaw.wordy, FltLaw.letter, FltLaw.digit, ← UInt8.toNat_inj]; omega
set_option maxHeartbeats 800000 in
set_option maxRecDepth 100000 in
theorem option_r (l : List UInt8) (w : World) (hl : l.length ≤ 9223372036854775807) :
  Calls Tryz.prog 123 #[.string ⟨l.toArray⟩] w fun e w' => ∃ x, Hid (allOf FltLaw.wordy l = x) ∧ e = .returned (.bool x) ∧ w = w' := by
 refine some_bool (b := allOf FltLaw.wordy l) ?_
 go_enter Tryz.func123, Tryz.ntmps123
 go_wp2_with fail
 go_loop [3] (fun i => ∃ k : Nat, k ≤ l.length ∧ i = .int .i64 k ∧ (l.take k).all FltLaw.wordy = true) (fun i => l.length - (RowKit.intOf i).toNat)
 case atStart => exact ⟨0, Nat.zero_le _, rfl, rfl⟩
 case round =>
  obtain ⟨k, hk, rfl, hall⟩ := hrel
  have HA := Lib.hid hall
  clear hall
  by_cases hlt : k < l.length
  ·go_wp2_with fail
   all_goals first
    | (go_round
       case rel =>
        go_light
        exact ⟨k + 1, by omega, by go_num, by rw [all_take HA.out hlt]; exact wordy_yes (c := (⟨l.toArray⟩ : ByteArray)[k]'(by show k < l.toArray.size; simpa using hlt)) (by simp at *; omega)⟩
       case measure => simp [RowKit.intOf]; omega)
    | (go_ret
       go_light
       exact ⟨ret_bool (by rw [all_stop hlt (wordy_no (c := (⟨l.toArray⟩ : ByteArray)[k]'(by show k < l.toArray.size; simpa using hlt)) (by simp at *; omega))]), rfl⟩)
  ·go_wp2_with fail
   go_ret
   have e : l.take k = l := List.take_of_length_le (by omega)
   rw [e] at HA
   exact ⟨ret_bool (by simp [allOf, HA.out]; cases l <;> simp), rfl⟩
end Go.Proofs.YtdkfmckbeagenaaGreatDoor

namespace Go.Proofs.YtdkfmckbeagenaaGreatDoor
open Go.RowKit Go.FltLaw Go.Lib

theorem cut_str (l : List UInt8) (a i : Nat) (q : List UInt8) (hq : (l.drop a).take (i - a) = q) : (⟨l.toArray⟩ : ByteArray).extract a i = ⟨q.toArray⟩ := by
 apply ByteArray.ext
 subst hq
 simp [List.extract_eq_take_drop]
theorem rows_bound {l : List UInt8} {a m : Nat} (h : RowsAt l a m) : m ≤ l.length := by
 have h1 := h.2
 have h2 := pieces_le 46 l
 have h3 : 0 < (pieces 46 (l.drop a)).length := by rw [pieces_length]; omega
 omega
def WordAt (l : List UInt8) (m a i : Nat) : Prop :=
 (i ≤ l.length ∧ a ≤ i ∧ RowsAt l a m ∧ Free 46 l a i) ∨ (i = l.length + 1 ∧ a = i ∧ m ≤ l.length + 1 ∧ (pieces 46 l).all FltLaw.row = true ∧ (pieces 46 l).length = m)
theorem idx_some {l : List UInt8} {i : Nat} {c : UInt8} (h : i < l.length) (h2 : l[i] = c) : l[i]? = some c := by rw [List.getElem?_eq_getElem h, h2]
theorem idx_none {l : List UInt8} {i : Nat} {c : UInt8} (h : i < l.length) (h2 : l[i] ≠ c) : l[i]? ≠ some c := by rw [List.getElem?_eq_getElem h]; simpa using h2
theorem WordAt.skip {l : List UInt8} {m a i : Nat} (hi : i < l.length) (ha : a ≤ i) (hr : RowsAt l a m) (hf : Free 46 l a i) (h : l[i]? ≠ some 46) : WordAt l m a (i + 1) := .inl ⟨by omega, by omega, hr, hf.next h⟩
theorem WordAt.more {l : List UInt8} {m a i : Nat} {q : List UInt8} (hi : i < l.length) (ha : a ≤ i) (hr : RowsAt l a m) (hf : Free 46 l a i) (h : l[i]? = some 46) (hq : (l.drop a).take (i - a) = q) (hrow : FltLaw.row q = true) : WordAt l (m + 1) (i + 1) (i + 1) := by
 subst hq
 exact .inl ⟨by omega, Nat.le_refl _, hr.next hf ha h hrow, Free.start _ _ _⟩
theorem WordAt.last {l : List UInt8} {m a i : Nat} {q : List UInt8} (hi : i = l.length) (hr : RowsAt l a m) (hf : Free 46 l a i) (hq : (l.drop a).take (i - a) = q) (hrow : FltLaw.row q = true) : WordAt l (m + 1) (i + 1) (i + 1) := by
 subst hq hi
 obtain ⟨h1, h2⟩ := hr.last hf hrow
 exact .inr ⟨rfl, rfl, by have := rows_bound hr; omega, h1, h2⟩
theorem dot_no {l : List UInt8} {i : Nat} {c : UInt8} (hi : i < l.length) {n : Int} (hn : n = c.toNat) (h : ((l[i].toNat : Int) != n) = true) : l[i]? ≠ some c := by
 subst hn
 refine idx_none hi fun e => ?_
 rw [e] at h
 simp at h
theorem dot_yes {l : List UInt8} {i : Nat} {c : UInt8} (hi : i < l.length) {n : Int} (hn : n = c.toNat) (h : ((l[i].toNat : Int) != n) = false) : l[i]? = some c := by
 subst hn
 refine idx_some hi (UInt8.toNat_inj.1 ?_)
 have h2 : ((l[i].toNat : Int) = (c.toNat : Int)) := by simpa [bne_eq_false_iff_eq] using h
 omega
theorem nonempty_len {l : List UInt8} (h : 0 < l.length) : ((l.length : Int) == 0) = false := beq_eq_false_iff_ne.2 (by omega)
set_option maxHeartbeats 3200000 in
set_option maxRecDepth 100000 in
theorem word_rest_r (l : List UInt8) (w : World) (hl : l.length < 4294967281) (h0 : 0 < l.length) (hb : FltLaw.letter l[0] = false) :
  Calls Tryz.prog 89 #[.string ⟨l.toArray⟩] w fun e w' => e = .returned (.bool ((pieces 46 l).all FltLaw.row && decide (1 < (pieces 46 l).length))) ∧ w = w' := by
 have hb0 : FltLaw.letter ((⟨l.toArray⟩ : ByteArray)[0]'(by show 0 < l.toArray.size; simpa using h0)) = false := hb
 have HB := Lib.hid hb0
 have hne := nonempty_len h0
 have hl1 : l.length + 1 ≤ 4294967281 := by omega
 clear hb hb0
 go_enter Tryz.func89, Tryz.ntmps89
 go_wp2_with (go_at_call 124; (with_reducible refine (letter_r _ w).mono ?_); rintro e w' ⟨x, HX, rfl, rfl⟩; obtain rfl : x = false := HX.out.symm.trans HB.out; clear HX)
 go_loop [4, 5, 6] (fun m a i => ∃ M A I : Nat, m = .int .i64 M ∧ a = .int .i64 A ∧ i = .int .i64 I ∧ WordAt l M A I) (fun _ _ i => l.length + 1 - (RowKit.intOf i).toNat)
 case atStart => exact ⟨0, 0, 0, rfl, rfl, rfl, .inl ⟨by omega, by omega, RowsAt.start l, Free.start _ _ _⟩⟩
 case round =>
  obtain ⟨M, A, I, rfl, rfl, rfl, hat⟩ := hrel
  rcases hat with ⟨hI, hA, hrows, hfree⟩ | ⟨rfl, rfl, hM, hall, hlen⟩
  ·have HR := Lib.hid hrows
   have HF := Lib.hid hfree
   have hMb := rows_bound hrows
   have HE := Lib.hid (cut_str l A I _ rfl)
   generalize hq : (l.drop A).take (I - A) = q at HE
   have hqn : q.length ≤ 9223372036854775807 := by rw [← hq]; simp; omega
   have HQ := Lib.hid hq
   have hE := HE.out
   clear hrows hfree hq HE
   by_cases hlt : I < l.length
   ·cases q with
    | nil =>
     go_wp2_with (go_at_call 126; (with_reducible refine (digits_r [] _ (by simp)).mono ?_); rintro e w' ⟨x, HX, rfl, rfl⟩; obtain rfl : x = false := HX.out.symm; clear HX)
     ·have g : ((((⟨l.toArray⟩ : ByteArray)[I]'(by show I < l.toArray.size; simpa using hlt)).toNat : Int) != 46) = true := by assumption
      go_round
      case rel => exact ⟨M, A, I + 1, rfl, rfl, by go_num, .skip hlt hA HR.out HF.out (dot_no hlt rfl g)⟩
      case measure => simp [RowKit.intOf]; omega
     ·have g : ((((⟨l.toArray⟩ : ByteArray)[I]'(by show I < l.toArray.size; simpa using hlt)).toNat : Int) != 46) = false := by assumption
      have hi := dot_yes (c := 46) hlt rfl g
      go_ret
      exact ⟨ret_bool (by rw [HR.out.bad HF.out hA (.inl hi) (by rw [HQ.out]; rfl)]; simp), rfl⟩
    | cons c q =>
     go_wp2_with (go_at_call 126; (with_reducible refine (digits_r (c :: q) _ (by omega)).mono ?_); rintro e w' ⟨x, HX, rfl, rfl⟩)
     ·have g : ((((⟨l.toArray⟩ : ByteArray)[I]'(by show I < l.toArray.size; simpa using hlt)).toNat : Int) != 46) = true := by assumption
      go_round
      case rel => exact ⟨M, A, I + 1, rfl, rfl, by go_num, .skip hlt hA HR.out HF.out (dot_no hlt rfl g)⟩
      case measure => simp [RowKit.intOf]; omega
     ·have g : ((((⟨l.toArray⟩ : ByteArray)[I]'(by show I < l.toArray.size; simpa using hlt)).toNat : Int) != 46) = false := by assumption
      have hi := dot_yes (c := 46) hlt rfl g
      have hx : x = true := by assumption
      have g1 : (c.toNat : Int) = 48 := by assumption
      have g2 : 1 < (q.length : Int) + 1 := by assumption
      go_ret
      exact ⟨ret_bool (by rw [HR.out.bad HF.out hA (.inl hi) (by rw [HQ.out]; exact row_bad g1 g2)]; simp), rfl⟩
     ·have g : ((((⟨l.toArray⟩ : ByteArray)[I]'(by show I < l.toArray.size; simpa using hlt)).toNat : Int) != 46) = false := by assumption
      have hi := dot_yes (c := 46) hlt rfl g
      have hx : x = true := by assumption
      have g2 : (q.length : Int) + 1 ≤ 1 := by assumption
      go_round
      case rel => exact ⟨M + 1, I + 1, I + 1, by go_num, by go_num, by go_num, .more hlt hA HR.out HF.out hi HQ.out (row_one (HX.out.trans hx) g2)⟩
      case measure => simp [RowKit.intOf]; omega
     ·have g : ((((⟨l.toArray⟩ : ByteArray)[I]'(by show I < l.toArray.size; simpa using hlt)).toNat : Int) != 46) = false := by assumption
      have hi := dot_yes (c := 46) hlt rfl g
      have hx : x = true := by assumption
      have g1 : ¬ (c.toNat : Int) = 48 := by assumption
      go_round
      case rel => exact ⟨M + 1, I + 1, I + 1, by go_num, by go_num, by go_num, .more hlt hA HR.out HF.out hi HQ.out (row_more (HX.out.trans hx) g1)⟩
      case measure => simp [RowKit.intOf]; omega
     ·have g : ((((⟨l.toArray⟩ : ByteArray)[I]'(by show I < l.toArray.size; simpa using hlt)).toNat : Int) != 46) = false := by assumption
      have hi := dot_yes (c := 46) hlt rfl g
      have hx : ¬ x = true := by assumption
      have hd : allOf FltLaw.digit (c :: q) = false := HX.out.trans (by simpa using hx)
      go_ret
      exact ⟨ret_bool (by rw [HR.out.bad HF.out hA (.inl hi) (by rw [HQ.out]; simp [FltLaw.row, hd])]; simp), rfl⟩
   ·have hIl : l.length ≤ I := by omega
    cases q with
    | nil =>
     go_wp2_with (go_at_call 126; (with_reducible refine (digits_r [] _ (by simp)).mono ?_); rintro e w' ⟨x, HX, rfl, rfl⟩; obtain rfl : x = false := HX.out.symm; clear HX)
     go_ret
     exact ⟨ret_bool (by rw [HR.out.bad HF.out hA (.inr (by omega)) (by rw [HQ.out]; rfl)]; simp), rfl⟩
    | cons c q =>
     go_wp2_with (go_at_call 126; (with_reducible refine (digits_r (c :: q) _ (by omega)).mono ?_); rintro e w' ⟨x, HX, rfl, rfl⟩)
     ·have hx : x = true := by assumption
      have g1 : (c.toNat : Int) = 48 := by assumption
      have g2 : 1 < (q.length : Int) + 1 := by assumption
      go_ret
      exact ⟨ret_bool (by rw [HR.out.bad HF.out hA (.inr (by omega)) (by rw [HQ.out]; exact row_bad g1 g2)]; simp), rfl⟩
     ·have hx : x = true := by assumption
      have g2 : (q.length : Int) + 1 ≤ 1 := by assumption
      go_round
      case rel => exact ⟨M + 1, I + 1, I + 1, by go_num, by go_num, by go_num, .last (by omega) HR.out HF.out HQ.out (row_one (HX.out.trans hx) g2)⟩
      case measure => simp [RowKit.intOf]; omega
     ·have hx : x = true := by assumption
      have g1 : ¬ (c.toNat : Int) = 48 := by assumption
      go_round
      case rel => exact ⟨M + 1, I + 1, I + 1, by go_num, by go_num, by go_num, .last (by omega) HR.out HF.out HQ.out (row_more (HX.out.trans hx) g1)⟩
      case measure => simp [RowKit.intOf]; omega
     ·have hx : ¬ x = true := by assumption
      have hd : allOf FltLaw.digit (c :: q) = false := HX.out.trans (by simpa using hx)
      go_ret
      exact ⟨ret_bool (by rw [HR.out.bad HF.out hA (.inr (by omega)) (by rw [HQ.out]; simp [FltLaw.row, hd])]; simp), rfl⟩
  ·have HA := Lib.hid hall
   have HL := Lib.hid hlen
   clear hall hlen
   go_wp2_with fail
   go_ret
   exact ⟨ret_bool (by rw [HA.out, HL.out]; simp; omega), rfl⟩
theorem wordy_l {c : UInt8} (h : FltLaw.letter c = true) : FltLaw.wordy c = true := by simp [FltLaw.wordy, h]
theorem wordy_d {c : UInt8} (h : FltLaw.digit c = true) : FltLaw.wordy c = true := by simp [FltLaw.wordy, h]
theorem wordy_dash {c : UInt8} (h : ((c.toNat : Int) != 45) = false) : FltLaw.wordy c = true := wordy_yes (by simp at h; omega)
theorem wordy_none {c : UInt8} (h1 : FltLaw.letter c = false) (h2 : FltLaw.digit c = false) (h : ((c.toNat : Int) != 45) = true) : FltLaw.wordy c = false := by
 have h3 : ¬ c = 45 := by rintro rfl; simp at h
 simp [FltLaw.wordy, h1, h2, h3]
set_option maxHeartbeats 1600000 in
set_option maxRecDepth 100000 in
theorem word_head_r (l : List UInt8) (w : World) (hl : l.length < 4294967281) (h0 : 0 < l.length) (hb : FltLaw.letter l[0] = true) :
  Calls Tryz.prog 89 #[.string ⟨l.toArray⟩] w fun e w' => e = .returned (.bool (allOf FltLaw.wordy l)) ∧ w = w' := by
 have hb0 : FltLaw.letter ((⟨l.toArray⟩ : ByteArray)[0]'(by show 0 < l.toArray.size; simpa using h0)) = true := hb
 have HB := Lib.hid hb0
 have hne := nonempty_len h0
 clear hb hb0
 go_enter Tryz.func89, Tryz.ntmps89
 go_wp2_with (go_at_call 124; (with_reducible refine (letter_r _ w).mono ?_); rintro e w' ⟨x, HX, rfl, rfl⟩; obtain rfl : x = true := HX.out.symm.trans HB.out; clear HX)
 go_loop [3] (fun i => ∃ k : Nat, k ≤ l.length ∧ i = .int .i64 k ∧ (l.take k).all FltLaw.wordy = true) (fun i => l.length - (RowKit.intOf i).toNat)
 case atStart => exact ⟨0, Nat.zero_le _, rfl, rfl⟩
 case round =>
  obtain ⟨k, hk, rfl, hall⟩ := hrel
  have HA := Lib.hid hall
  clear hall
  by_cases hlt : k < l.length
  ·go_wp2_with (first
    | (go_at_call 124; (with_reducible refine (letter_r _ w).mono ?_); rintro e w' ⟨x, HX, rfl, rfl⟩)
    | (go_at_call 125; (with_reducible refine (digit_r _ w).mono ?_); rintro e w' ⟨y, HY, rfl, rfl⟩))
   ·have hx : x = true := by assumption
    go_round
    case rel => exact ⟨k + 1, by omega, by go_num, by rw [all_take HA.out hlt]; exact wordy_l (HX.out.trans hx)⟩
    case measure => simp [RowKit.intOf]; omega
   ·have hy : y = true := by assumption
    go_round
    case rel => exact ⟨k + 1, by omega, by go_num, by rw [all_take HA.out hlt]; exact wordy_d (HY.out.trans hy)⟩
    case measure => simp [RowKit.intOf]; omega
   ·have hx : ¬ x = true := by assumption
    have hy : ¬ y = true := by assumption
    have g : ((((⟨l.toArray⟩ : ByteArray)[k]'(by show k < l.toArray.size; simpa using hlt)).toNat : Int) != 45) = true := by assumption
    go_ret
    exact ⟨ret_bool (by rw [all_stop hlt (wordy_none (HX.out.trans (by simpa using hx)) (HY.out.trans (by simpa using hy)) g)]), rfl⟩
   ·have g : ((((⟨l.toArray⟩ : ByteArray)[k]'(by show k < l.toArray.size; simpa using hlt)).toNat : Int) != 45) = false := by assumption
    go_round
    case rel => exact ⟨k + 1, by omega, by go_num, by rw [all_take HA.out hlt]; exact wordy_dash g⟩
    case measure => simp [RowKit.intOf]; omega
  ·go_wp2_with fail
   go_ret
   have e : l.take k = l := List.take_of_length_le (by omega)
   rw [e] at HA
   exact ⟨ret_bool (by simp [allOf, HA.out]; cases l <;> simp at h0 ⊢), rfl⟩
set_option maxRecDepth 100000 in
theorem word_empty_r (w : World) : Calls Tryz.prog 89 #[.string ⟨#[]⟩] w fun e w' => e = .returned (.bool false) ∧ w = w' := by
 go_enter Tryz.func89, Tryz.ntmps89
 go_wp2_with fail
 go_ret
 exact ⟨rfl, rfl⟩
theorem word_r (l : List UInt8) (w : World) (hl : l.length < 4294967281) :
  Calls Tryz.prog 89 #[.string ⟨l.toArray⟩] w fun e w' => ∃ x, Hid (FltLaw.word l = x) ∧ e = .returned (.bool x) ∧ w = w' := by
 refine some_bool (b := FltLaw.word l) ?_
 cases l with
 | nil => exact word_empty_r w
 | cons b r =>
  cases hb : FltLaw.letter b
  ·unfold FltLaw.word
   rw [show (!(b :: r).isEmpty && FltLaw.letter ((b :: r).headD 0)) = false by simp [hb]]
   exact word_rest_r (b :: r) w hl (by simp) hb
  ·unfold FltLaw.word
   rw [show (!(b :: r).isEmpty && FltLaw.letter ((b :: r).headD 0)) = true by simp [hb]]
   exact word_head_r (b :: r) w hl (by simp) hb
end Go.Proofs.YtdkfmckbeagenaaGreatDoor

namespace Go.Proofs.YtdkfmckbeagenaaGreatDoor
open Go.RowKit Go.FltLaw Go.Lib

def DescR (l : List UInt8) (a i : Nat) : Prop :=
 (i ≤ l.length ∧ a ≤ i ∧ DescAt l a ∧ Free 59 l a i) ∨ (i = l.length + 1 ∧ a = i ∧ FltLaw.desc l = true)
theorem DescR.skip {l : List UInt8} {a i : Nat} (hi : i < l.length) (ha : a ≤ i) (hr : DescAt l a) (hf : Free 59 l a i) (h : l[i]? ≠ some 59) : DescR l a (i + 1) := .inl ⟨by omega, by omega, hr, hf.next h⟩
theorem DescR.more {l : List UInt8} {a i : Nat} {q : List UInt8} (hi : i < l.length) (ha : a ≤ i) (hr : DescAt l a) (hf : Free 59 l a i) (h : l[i]? = some 59) (hq : (l.drop a).take (i - a) = q) (hrow : okPiece a q = true) : DescR l (i + 1) (i + 1) := by
 subst hq
 exact .inl ⟨by omega, Nat.le_refl _, hr.next hf ha h hrow, Free.start _ _ _⟩
theorem DescR.last {l : List UInt8} {a i : Nat} {q : List UInt8} (hi : i = l.length) (hr : DescAt l a) (hf : Free 59 l a i) (hq : (l.drop a).take (i - a) = q) (hrow : okPiece a q = true) : DescR l (i + 1) (i + 1) := by
 subst hq hi
 exact .inr ⟨rfl, rfl, hr.last hf hrow⟩
theorem okPiece_0 {q : List UInt8} {x : Bool} (h : FltLaw.word q = x) : okPiece 0 q = x := by simpa [okPiece] using h
theorem okPiece_n {a : Nat} {q : List UInt8} {x : Bool} (ha : 0 < a) (h : allOf FltLaw.wordy q = x) : okPiece a q = x := by
 unfold okPiece
 rw [if_neg (by omega)]
 exact h
set_option maxHeartbeats 3200000 in
set_option maxRecDepth 100000 in
theorem desc_r (l : List UInt8) (w : World) (hl : l.length < 4294967281) :
  Calls Tryz.prog 88 #[.string ⟨l.toArray⟩] w fun e w' => ∃ x, Hid (FltLaw.desc l = x) ∧ e = .returned (.bool x) ∧ w = w' := by
 refine some_bool (b := FltLaw.desc l) ?_
 have hl1 : l.length + 1 ≤ 4294967281 := by omega
 go_enter Tryz.func88, Tryz.ntmps88
 go_wp2_with fail
 go_loop [3, 4] (fun a i => ∃ A I : Nat, a = .int .i64 A ∧ i = .int .i64 I ∧ DescR l A I) (fun _ i => l.length + 1 - (RowKit.intOf i).toNat)
 case atStart => exact ⟨0, 0, rfl, rfl, .inl ⟨by omega, by omega, by simp [DescAt], Free.start _ _ _⟩⟩
 case round =>
  obtain ⟨A, I, rfl, rfl, hat⟩ := hrel
  rcases hat with ⟨hI, hA, hrows, hfree⟩ | ⟨rfl, rfl, hdesc⟩
  ·have HR := Lib.hid hrows
   have HF := Lib.hid hfree
   have HE := Lib.hid (cut_str l A I _ rfl)
   generalize hq : (l.drop A).take (I - A) = q at HE
   have hqn : q.length ≤ l.length := by rw [← hq]; simp; omega
   have HQ := Lib.hid hq
   have hE := HE.out
   clear hrows hfree hq HE
   by_cases hlt : I < l.length
   ·rcases Nat.eq_zero_or_pos A with rfl | hA0
    ·skip
     go_wp2_with (first
      | (go_at_call 89; (with_reducible refine (word_r q _ (by omega)).mono ?_); rintro e w' ⟨x, HX, rfl, rfl⟩)
      | (go_at_call 123; (with_reducible refine (option_r q _ (by omega)).mono ?_); rintro e w' ⟨x, HX, rfl, rfl⟩))
     ·have g : ((((⟨l.toArray⟩ : ByteArray)[I]'(by show I < l.toArray.size; simpa using hlt)).toNat : Int) != 59) = true := by assumption
      go_round
      case rel => exact ⟨_, I + 1, rfl, by go_num, .skip hlt hA HR.out HF.out (dot_no hlt rfl g)⟩
      case measure => simp [RowKit.intOf]; omega
     ·have g : ((((⟨l.toArray⟩ : ByteArray)[I]'(by show I < l.toArray.size; simpa using hlt)).toNat : Int) != 59) = false := by assumption
      have hi := dot_yes (c := 59) hlt rfl g
      have hx : x = true := by assumption
      go_round
      case rel => exact ⟨I + 1, I + 1, by go_num, by go_num, .more hlt hA HR.out HF.out hi HQ.out (okPiece_0 (HX.out.trans hx))⟩
      case measure => simp [RowKit.intOf]; omega
     ·have g : ((((⟨l.toArray⟩ : ByteArray)[I]'(by show I < l.toArray.size; simpa using hlt)).toNat : Int) != 59) = false := by assumption
      have hi := dot_yes (c := 59) hlt rfl g
      have hx0 : ¬ x = true := by assumption
      have hx : x = false := by simpa using hx0
      go_ret
      exact ⟨ret_bool (by rw [HR.out.bad HF.out hA (.inl hi) (by rw [HQ.out]; exact okPiece_0 (HX.out.trans hx))]), rfl⟩
    ·skip
     go_wp2_with (first
      | (go_at_call 89; (with_reducible refine (word_r q _ (by omega)).mono ?_); rintro e w' ⟨x, HX, rfl, rfl⟩)
      | (go_at_call 123; (with_reducible refine (option_r q _ (by omega)).mono ?_); rintro e w' ⟨x, HX, rfl, rfl⟩))
     ·have g : ((((⟨l.toArray⟩ : ByteArray)[I]'(by show I < l.toArray.size; simpa using hlt)).toNat : Int) != 59) = true := by assumption
      go_round
      case rel => exact ⟨_, I + 1, rfl, by go_num, .skip hlt hA HR.out HF.out (dot_no hlt rfl g)⟩
      case measure => simp [RowKit.intOf]; omega
     ·have g : ((((⟨l.toArray⟩ : ByteArray)[I]'(by show I < l.toArray.size; simpa using hlt)).toNat : Int) != 59) = false := by assumption
      have hi := dot_yes (c := 59) hlt rfl g
      have hx : (!x) = true := by assumption
      replace hx : x = false := by simpa using hx
      go_ret
      exact ⟨ret_bool (by rw [HR.out.bad HF.out hA (.inl hi) (by rw [HQ.out]; exact okPiece_n hA0 (HX.out.trans hx))]), rfl⟩
     ·have g : ((((⟨l.toArray⟩ : ByteArray)[I]'(by show I < l.toArray.size; simpa using hlt)).toNat : Int) != 59) = false := by assumption
      have hi := dot_yes (c := 59) hlt rfl g
      have hx : (!x) = false := by assumption
      replace hx : x = true := by simpa using hx
      go_round
      case rel => exact ⟨I + 1, I + 1, by go_num, by go_num, .more hlt hA HR.out HF.out hi HQ.out (okPiece_n hA0 (HX.out.trans hx))⟩
      case measure => simp [RowKit.intOf]; omega
   ·have hIl : l.length ≤ I := by omega
    rcases Nat.eq_zero_or_pos A with rfl | hA0
    ·skip
     go_wp2_with (first
      | (go_at_call 89; (with_reducible refine (word_r q _ (by omega)).mono ?_); rintro e w' ⟨x, HX, rfl, rfl⟩)
      | (go_at_call 123; (with_reducible refine (option_r q _ (by omega)).mono ?_); rintro e w' ⟨x, HX, rfl, rfl⟩))
     ·have hx : x = true := by assumption
      go_round
      case rel => exact ⟨I + 1, I + 1, by go_num, by go_num, .last (by omega) HR.out HF.out HQ.out (okPiece_0 (HX.out.trans hx))⟩
      case measure => simp [RowKit.intOf]; omega
     ·have hx0 : ¬ x = true := by assumption
      have hx : x = false := by simpa using hx0
      go_ret
      exact ⟨ret_bool (by rw [HR.out.bad HF.out hA (.inr (by omega)) (by rw [HQ.out]; exact okPiece_0 (HX.out.trans hx))]), rfl⟩
    ·skip
     go_wp2_with (first
      | (go_at_call 89; (with_reducible refine (word_r q _ (by omega)).mono ?_); rintro e w' ⟨x, HX, rfl, rfl⟩)
      | (go_at_call 123; (with_reducible refine (option_r q _ (by omega)).mono ?_); rintro e w' ⟨x, HX, rfl, rfl⟩))
     ·have hx : (!x) = true := by assumption
      replace hx : x = false := by simpa using hx
      go_ret
      exact ⟨ret_bool (by rw [HR.out.bad HF.out hA (.inr (by omega)) (by rw [HQ.out]; exact okPiece_n hA0 (HX.out.trans hx))]), rfl⟩
     ·have hx : (!x) = false := by assumption
      replace hx : x = true := by simpa using hx
      go_round
      case rel => exact ⟨I + 1, I + 1, by go_num, by go_num, .last (by omega) HR.out HF.out HQ.out (okPiece_n hA0 (HX.out.trans hx))⟩
      case measure => simp [RowKit.intOf]; omega
  ·have HD := Lib.hid hdesc
   clear hdesc
   go_wp2_with fail
   go_ret
   exact ⟨ret_bool (by rw [HD.out]), rfl⟩
end Go.Proofs.YtdkfmckbeagenaaGreatDoor

namespace Go.Proofs.YtdkfmckbeagenaaGreatDoor
open Go.RowKit Go.FltLaw Go.Lib Go.Deep

theorem small_nat (c : UInt8) : (FltLaw.small c).toNat = if 65 ≤ c.toNat ∧ c.toNat ≤ 90 then c.toNat + 32 else c.toNat := by
 unfold FltLaw.small
 split
 ·rw [UInt8.toNat_add]; simp; omega
 ·rfl
theorem int_u8 {a b : Int} (h : a = b) : Ending.returned (.int .u8 a) = .returned (.int .u8 b) := by rw [h]
theorem small_r (c : UInt8) (w : World) : Calls Tryz.prog 127 #[.int .u8 c.toNat] w fun e w' => e = .returned (.int .u8 (FltLaw.small c).toNat) ∧ w = w' := by
 have hc : (c.toNat : Int) ≤ 255 := by have := c.toNat_lt; omega
 go_enter Tryz.func127, Tryz.ntmps127
 go_wp2
 all_goals
  go_ret
  refine ⟨int_u8 ?_, rfl⟩
  rw [small_nat]
  split <;> omega
theorem info5 : (Tryz.prog.info? 5).map (fun i => (i.zero, i.size, i.bytes)) = some (some (.int .u8 0), 1, 1) := by kernel_rfl
theorem small_made (n : Nat) (hn : n ≤ 140737488351232) (w : World) : (Instr.makeSlice 128 (.int .i64 n) (.int .i64 n)).run Tryz.prog w = .ok (.slice (some ⟨w.heap.size, 0, none⟩) n n) (w.alloc (.cells (madeCells #[.int .u8 0] n) 5)) := by
 obtain ⟨i0, hi, hz0, hz1, hz2⟩ := info_parts info5
 have h := run_make (P := Tryz.prog) w 128 5 i0 _ Tryz.underlying128 hi hz0 .i64 .i64 n n (by omega) (by omega) (by rw [hz2]; omega) (by omega)
 rw [hz1] at h
 simpa [Value.cells] using h
theorem small_step {l : List UInt8} {j k : Nat} (hk : k < l.length) : (if j = k then Value.int IntKind.u8 (FltLaw.small (l[k])).toNat
  else if j < k then Value.int IntKind.u8 (FltLaw.small (l.getD j 0)).toNat else Value.int IntKind.u8 0) =
  if j < k + 1 then Value.int IntKind.u8 (FltLaw.small (l.getD j 0)).toNat else Value.int IntKind.u8 0 := by
 by_cases h : j = k
 ·subst h
  rw [if_pos rfl, if_pos (by omega)]
  simp [List.getElem?_eq_getElem hk]
 ·rw [if_neg h]
  by_cases h2 : j < k
  ·rw [if_pos h2, if_pos (by omega)]
  ·rw [if_neg h2, if_neg (by omega)]
set_option maxHeartbeats 1600000 in
set_option maxRecDepth 100000 in
theorem smalls_r (l : List UInt8) (w : World) (hl : l.length ≤ 140737488351232) :
  Calls Tryz.prog 90 #[.string ⟨l.toArray⟩] w fun e w' => e = .returned (.string ⟨(l.map FltLaw.small).toArray⟩) ∧ Below w.heap.size w w' := by
 have hmk := small_made l.length hl
 go_enter Tryz.func90, Tryz.ntmps90
 go_wp2_with fail
 clear hmk
 go_loopw [4] (fun i wr => ∃ k : Nat, k ≤ l.length ∧ i = .int .i64 k ∧ wr.rowIs w.heap.size 5 l.length (fun j => if j < k then .int .u8 (FltLaw.small (l.getD j 0)).toNat else .int .u8 0) ∧ Below w.heap.size w wr) (fun i _ => l.length - (RowKit.intOf i).toNat)
 case atStart => exact ⟨0, Nat.zero_le _, rfl, (World.rowIs_made w _ _ _).congr fun j _ => by simp, (Below.refl _ _).alloc (Nat.le_refl _) _⟩
 case round =>
  obtain ⟨k, hk, rfl, hrow, hb⟩ := hrel
  have HB := Lib.hid hb
  by_cases hlt : k < l.length
  ·have hc := hrow.cell hlt
   have hf := hrow.frozen k
   rw [if_neg (Nat.lt_irrefl _)] at hc
   have HR := Lib.hid hrow
   clear hrow hb
   go_wp2_with (go_at_call 127; (with_reducible refine (small_r _ wr).mono ?_); rintro e w' ⟨rfl, rfl⟩)
   go_roundw
   case rel =>
    refine ⟨k + 1, by omega, by go_num, (HR.out.set k _).congr fun j hj => ?_, HB.out.setCell (p := ⟨w.heap.size, k, none⟩) (Nat.le_refl _) _⟩
    exact small_step hlt
   case measure => simp [RowKit.intOf]; omega
  ·have ek : l.length ≤ k := by omega
   have hcv := run_convert_bytes_back (P := Tryz.prog) wr 128 9 5 ⟨w.heap.size, 0, none⟩ l.length (l.map FltLaw.small) Tryz.underlying128 Tryz.underlying5 Tryz.underlying9 (fun j hj => by
    have hj' : j < l.length := by simpa using hj
    have e1 : (⟨w.heap.size, 0, none⟩ : Addr).add j = ⟨w.heap.size, j, none⟩ := by unfold Addr.add; split <;> simp_all
    rw [e1, hrow.cell hj', if_pos (by omega)]
    simp [List.getElem?_eq_getElem hj'])
   rw [List.length_map] at hcv
   have HR := Lib.hid hrow
   clear hrow hb
   go_wp2_with fail
   go_ret
   exact ⟨rfl, HB.out⟩
end Go.Proofs.YtdkfmckbeagenaaGreatDoor
