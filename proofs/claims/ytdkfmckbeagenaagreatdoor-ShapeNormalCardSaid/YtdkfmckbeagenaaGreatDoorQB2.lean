/-
  filter's words and descriptions: what the program computes of a text.
 filter's parts: what the program says of a part's own fields.
 filter.long: is one of a part's texts above the bound?
 What right's callees compute; right's law by parts.
-/
import Derived.Test.YtdkfmckbeagenaaGreatDoorQB1
import Derived.WalkKit
import Derived.Outline
import Derived.Lib.Hide
import Derived.Test.YtdkfmckbeagenaaGreatDoorQA1
import Derived.Deep.Cut
import Derived.Deep.DeepCutAuto
import Derived.Deep.Light
namespace Go.Proofs.YtdkfmckbeagenaaGreatDoor
open Go.RowKit Go.FltLaw Go.Lib

theorem ret_bool {a b : Bool} (h : a = true ↔ b = true) : Ending.returned (.bool a) = .returned (.bool b) := by rw [Bool.eq_iff_iff.2 h]
theorem letter_p (c : UInt8) (w : World) : Calls Tryz.prog 80 #[.int .u8 c.toNat] w fun e w' => e = .returned (.bool (FltLaw.letter c)) ∧ w = w' := by
 go_enter Tryz.func80, Tryz.ntmps80
 go_wp2
 all_goals
  go_ret
  exact ⟨ret_bool (by simp [FltLaw.letter]; omega), rfl⟩
theorem digit_p (c : UInt8) (w : World) : Calls Tryz.prog 81 #[.int .u8 c.toNat] w fun e w' => e = .returned (.bool (FltLaw.digit c)) ∧ w = w' := by
 go_enter Tryz.func81, Tryz.ntmps81
 go_wp2
 all_goals
  go_ret
  exact ⟨ret_bool (by simp [FltLaw.digit]; omega), rfl⟩
theorem letter_x (c : UInt8) (w : World) (x : Bool) (h : FltLaw.letter c = x) : Calls Tryz.prog 80 #[.int .u8 c.toNat] w fun e w' => e = .returned (.bool x) ∧ w = w' := by
 subst h; exact letter_p c w
theorem wordy_p (c : UInt8) (w : World) : Calls Tryz.prog 79 #[.int .u8 c.toNat] w fun e w' => e = .returned (.bool (FltLaw.wordy c)) ∧ w = w' := by
 unfold FltLaw.wordy
 cases hl : FltLaw.letter c <;> cases hd : FltLaw.digit c
 all_goals
  go_enter Tryz.func79, Tryz.ntmps79
  go_wp2_with (first
   | (go_at_call 80; (with_reducible refine (letter_p c w).mono ?_); rintro e w' ⟨rfl, rfl⟩)
   | (go_at_call 81; (with_reducible refine (digit_p c w).mono ?_); rintro e w' ⟨rfl, rfl⟩))
  go_ret
  exact ⟨ret_bool (by simp [← UInt8.toNat_inj]; try omega), rfl⟩
theorem all_take {p : UInt8 → Bool} {l : List UInt8} {k : Nat} (h : (l.take k).all p = true) (hk : k < l.length) : (l.take (k + 1)).all p = p l[k] := by
 rw [List.take_succ_eq_append_getElem hk, List.all_append, h]; simp
theorem all_stop {p : UInt8 → Bool} {l : List UInt8} {k : Nat} (hk : k < l.length) (h : p l[k] = false) : allOf p l = false := by
 have : l.all p = false := by
  rw [List.all_eq_false]
  exact ⟨l[k], List.getElem_mem _, by simp [h]⟩
 simp [allOf, this]
theorem some_bool {P : Program} {F : Nat} {args : Array Value} {w : World} {b : Bool} (h : Calls P F args w fun e w' => e = .returned (.bool b) ∧ w = w') :
  Calls P F args w fun e w' => ∃ x, Hid (b = x) ∧ e = .returned (.bool x) ∧ w = w' := h.mono fun _ _ ⟨h1, h2⟩ => ⟨b, rfl, h1, h2⟩
set_option maxHeartbeats 400000 in
set_option maxRecDepth 100000 in
theorem all_wordy (l : List UInt8) (w : World) (hl : l.length ≤ 9223372036854775807) :
  Calls Tryz.prog 78 #[.string ⟨l.toArray⟩, .func (.func 79) #[] #[]] w fun e w' => e = .returned (.bool (allOf FltLaw.wordy l)) ∧ w = w' := by
 go_enter Tryz.func78, Tryz.ntmps78
 go_wp2_with fail
 go_loop [8] (fun i => ∃ k : Nat, k ≤ l.length ∧ i = .int .i64 k ∧ (l.take k).all FltLaw.wordy = true) (fun i => l.length - (RowKit.intOf i).toNat)
 case atStart => exact ⟨0, Nat.zero_le _, rfl, rfl⟩
 case round =>
  obtain ⟨k, hk, rfl, hall⟩ := hrel
  have HA := Lib.hid hall
  clear hall
  by_cases hlt : k < l.length
  ·go_wp2_with (go_at_call 79; (with_reducible refine (some_bool (wordy_p _ w)).mono ?_); rintro e w' ⟨b, HB, rfl, rfl⟩)
   ·have hb : (!b) = true := by assumption
    go_ret
    exact ⟨ret_bool (by rw [all_stop hlt (HB.out.trans (by simpa using hb))]), rfl⟩
   ·have hb : (!b) = false := by assumption
    go_round
    case rel => exact ⟨k + 1, by omega, by go_num, by rw [all_take HA.out hlt]; exact HB.out.trans (by simpa using hb)⟩
    case measure => simp [RowKit.intOf]; omega
  ·go_wp2_with fail
   go_ret
   have e : l.take k = l := List.take_of_length_le (by omega)
   rw [e] at HA
   exact ⟨ret_bool (by simp [allOf, HA.out]), rfl⟩
set_option maxHeartbeats 400000 in
set_option maxRecDepth 100000 in
theorem all_digit (l : List UInt8) (w : World) (hl : l.length ≤ 9223372036854775807) :
  Calls Tryz.prog 78 #[.string ⟨l.toArray⟩, .func (.func 81) #[] #[]] w fun e w' => e = .returned (.bool (allOf FltLaw.digit l)) ∧ w = w' := by
 go_enter Tryz.func78, Tryz.ntmps78
 go_wp2_with fail
 go_loop [8] (fun i => ∃ k : Nat, k ≤ l.length ∧ i = .int .i64 k ∧ (l.take k).all FltLaw.digit = true) (fun i => l.length - (RowKit.intOf i).toNat)
 case atStart => exact ⟨0, Nat.zero_le _, rfl, rfl⟩
 case round =>
  obtain ⟨k, hk, rfl, hall⟩ := hrel
  have HA := Lib.hid hall
  clear hall
  by_cases hlt : k < l.length
  ·go_wp2_with (go_at_call 81; (with_reducible refine (some_bool (digit_p _ w)).mono ?_); rintro e w' ⟨b, HB, rfl, rfl⟩)
   ·have hb : (!b) = true := by assumption
    go_ret
    exact ⟨ret_bool (by rw [all_stop hlt (HB.out.trans (by simpa using hb))]), rfl⟩
   ·have hb : (!b) = false := by assumption
    go_round
    case rel => exact ⟨k + 1, by omega, by go_num, by rw [all_take HA.out hlt]; exact HB.out.trans (by simpa using hb)⟩
    case measure => simp [RowKit.intOf]; omega
  ·go_wp2_with fail
   go_ret
   have e : l.take k = l := List.take_of_length_le (by omega)
   rw [e] at HA
   exact ⟨ret_bool (by simp [allOf, HA.out]), rfl⟩
def Pieced (c : UInt8) (l : List UInt8) (w : World) (e : Ending) (w' : World) : Prop :=
 ∃ ad : Addr, e = .returned (.slice (some ad) (pieces c l).length (pieces c l).length) ∧ (∀ j u, (pieces c l)[j]? = some u → w'.cell? (ad.add j) = some (.string ⟨u.toArray⟩)) ∧ Below w.heap.size w w'
theorem split_any (c : UInt8) (l : List UInt8) (w : World) (hl : l.length < 4294967281) (hm : MaxVar w) : Calls Tryz.prog 77 #[.string ⟨l.toArray⟩, .string ⟨#[c]⟩] w (Pieced c l w) :=
 (split_c c l w hl hm).mono fun e w' ⟨h1, h2⟩ => ⟨_, h1, fun j u hu => by
  subst h2
  have hj : j < (pieces c l).length := (List.getElem?_eq_some_iff.1 hu).1
  have e1 : (⟨w.heap.size, 0, none⟩ : Addr).add j = ⟨w.heap.size, j, none⟩ := by unfold Addr.add; split <;> simp_all
  rw [e1]
  simp [hu, txt], by subst h2; exact (Below.refl _ _).alloc (Nat.le_refl _) _⟩
theorem rows_take {l : List (List UInt8)} {k : Nat} {p : List UInt8 → Bool} (h : (l.take k).all p = true) (hk : k < l.length) : (l.take (k + 1)).all p = p l[k] := by
 rw [List.take_succ_eq_append_getElem hk, List.all_append, h]; simp
theorem rows_stop {l : List (List UInt8)} {k : Nat} {p : List UInt8 → Bool} (hk : k < l.length) (h : p l[k] = false) : l.all p = false := by
 rw [List.all_eq_false]
 exact ⟨l[k], List.getElem_mem _, by simp [h]⟩
theorem pieces_le (c : UInt8) (l : List UInt8) : (pieces c l).length ≤ l.length + 1 := by rw [pieces_length]; have := List.count_le_length (a := c) (l := l); omega
theorem pieces_mem_le (c : UInt8) : ∀ (l : List UInt8), ∀ p ∈ pieces c l, p.length ≤ l.length
 | [], p, h => by simp [pieces] at h; subst h; simp
 | b :: l, p, h => by
  by_cases hb : b = c
  ·rw [pieces, if_pos hb] at h
   rcases List.mem_cons.1 h with rfl | h
   ·simp
   ·have := pieces_mem_le c l p h; simp; omega
  ·obtain ⟨q, qs, e1, e2⟩ := pieces_cons_ne (l := l) hb
   rw [e2] at h
   have ih := pieces_mem_le c l
   rw [e1] at ih
   rcases List.mem_cons.1 h with rfl | h
   ·have := ih q (by simp); simp; omega
   ·have := ih p (by simp [h]); simp; omega
theorem all_digit_x (l : List UInt8) (w : World) (hl : l.length ≤ 9223372036854775807) (x : Bool) (h : allOf FltLaw.digit l = x) :
  Calls Tryz.prog 78 #[.string ⟨l.toArray⟩, .func (.func 81) #[] #[]] w fun e w' => e = .returned (.bool x) ∧ w = w' := by
 subst h; exact all_digit l w hl
theorem row_bad {c : UInt8} {q : List UInt8} (g1 : (c.toNat : Int) = 48) (g2 : 1 < (q.length : Int) + 1) : FltLaw.row (c :: q) = false := by
 have h1 : c = 48 := UInt8.toNat_inj.1 (by simp; omega)
 subst h1
 have h2 : 1 < q.length + 1 := by omega
 simp [FltLaw.row]
 intro _
 omega
theorem row_one {c : UInt8} {q : List UInt8} (hd : allOf FltLaw.digit (c :: q) = true) (g2 : (q.length : Int) + 1 ≤ 1) : FltLaw.row (c :: q) = true := by
 have h2 : q = [] := List.eq_nil_of_length_eq_zero (by omega)
 subst h2
 simp [FltLaw.row, hd]
theorem row_more {c : UInt8} {q : List UInt8} (hd : allOf FltLaw.digit (c :: q) = true) (g1 : ¬ (c.toNat : Int) = 48) : FltLaw.row (c :: q) = true := by
 have h1 : (c == 48) = false := by
  rw [beq_eq_false_iff_ne]
  rintro rfl
  exact g1 rfl
 simp [FltLaw.row, hd, h1]
set_option maxHeartbeats 1600000 in
set_option maxRecDepth 100000 in
theorem word_rest (b : UInt8) (r : List UInt8) (w : World) (hl : (b :: r).length < 4294967281) (hm : MaxVar w) (hb : FltLaw.letter b = false) :
  Calls Tryz.prog 55 #[.string ⟨(b :: r).toArray⟩] w fun e w' => e = .returned (.bool ((pieces 46 (b :: r)).all FltLaw.row && decide (1 < (pieces 46 (b :: r)).length))) ∧ Below w.heap.size w w' := by
 have hple := pieces_le 46 (b :: r)
 have hmem : ∀ k (hk : k < (pieces 46 (b :: r)).length), (pieces 46 (b :: r))[k].length ≤ 9223372036854775807 := fun k hk => by have := pieces_mem_le 46 (b :: r) _ (List.getElem_mem hk); omega
 have HM := Lib.hid hmem
 have hb0 : FltLaw.letter ((⟨(b :: r).toArray⟩ : ByteArray)[0]'(by show 0 < (b :: r).toArray.size; simp)) = false := hb
 have HB := Lib.hid hb0
 clear hmem hb hb0
 go_enter Tryz.func55, Tryz.ntmps55
 go_wp2_with (first
  | (go_at_call 80; (with_reducible refine (letter_x _ w false HB.out).mono ?_); rintro e w' ⟨rfl, rfl⟩)
  | (go_at_call 77; (with_reducible refine (split_any 46 (b :: r) w hl hm).mono ?_); rintro e w1 ⟨ad, rfl, hc0, hb1⟩; have HC := Lib.hid hc0; clear hc0))
 go_loop [19] (fun i => ∃ k : Nat, k ≤ (pieces 46 (b :: r)).length ∧ i = .int .i64 k ∧ ((pieces 46 (b :: r)).take k).all FltLaw.row = true) (fun i => (pieces 46 (b :: r)).length - (RowKit.intOf i).toNat)
 case atStart => exact ⟨0, Nat.zero_le _, rfl, rfl⟩
 case round =>
  obtain ⟨k, hk, rfl, hall⟩ := hrel
  have HA := Lib.hid hall
  clear hall
  by_cases hlt : k < (pieces 46 (b :: r)).length
  ·have hc := HC.out k _ (List.getElem?_eq_getElem hlt)
   have hr := HM.out k hlt
   generalize hq : (pieces 46 (b :: r))[k] = q at hc hr
   have HQ := Lib.hid hq
   clear hq
   cases q with
   | nil =>
    go_wp2_with (go_at_call 78; (with_reducible refine (all_digit_x [] _ (by omega) false rfl).mono ?_); rintro e w' ⟨rfl, rfl⟩)
    go_ret
    exact ⟨ret_bool (by rw [rows_stop hlt (by rw [HQ.out]; rfl)]; simp), hb1⟩
   | cons c q =>
    cases hd : allOf FltLaw.digit (c :: q)
    ·have HD := Lib.hid hd
     clear hd
     go_wp2_with (go_at_call 78; (with_reducible refine (all_digit_x (c :: q) _ (by omega) false HD.out).mono ?_); rintro e w' ⟨rfl, rfl⟩)
     go_ret
     exact ⟨ret_bool (by rw [rows_stop hlt (by rw [HQ.out]; simp [FltLaw.row, HD.out])]; simp), hb1⟩
    ·have HD := Lib.hid hd
     clear hd
     go_wp2_with (go_at_call 78; (with_reducible refine (all_digit_x (c :: q) _ (by omega) true HD.out).mono ?_); rintro e w' ⟨rfl, rfl⟩)
     ·go_ret
      have g1 : (c.toNat : Int) = 48 := by assumption
      have g2 : 1 < (q.length : Int) + 1 := by assumption
      exact ⟨ret_bool (by rw [rows_stop hlt (by rw [HQ.out]; exact row_bad g1 g2)]; simp), hb1⟩
     ·have g2 : (q.length : Int) + 1 ≤ 1 := by assumption
      go_round
      case rel => exact ⟨k + 1, by omega, by go_num, by rw [rows_take HA.out hlt, HQ.out]; exact row_one HD.out g2⟩
      case measure => simp [RowKit.intOf]; omega
     ·have g1 : ¬ (c.toNat : Int) = 48 := by assumption
      go_round
      case rel => exact ⟨k + 1, by omega, by go_num, by rw [rows_take HA.out hlt, HQ.out]; exact row_more HD.out g1⟩
      case measure => simp [RowKit.intOf]; omega
  ·go_wp2_with fail
   go_ret
   have ek : (pieces 46 (b :: r)).take k = pieces 46 (b :: r) := List.take_of_length_le (by omega)
   rw [ek] at HA
   exact ⟨ret_bool (by rw [HA.out]; simp; omega), hb1⟩
set_option maxHeartbeats 800000 in
set_option maxRecDepth 100000 in
theorem word_head (b : UInt8) (r : List UInt8) (w : World) (hl : (b :: r).length ≤ 9223372036854775807) (hb : FltLaw.letter b = true) :
  Calls Tryz.prog 55 #[.string ⟨(b :: r).toArray⟩] w fun e w' => e = .returned (.bool (allOf FltLaw.wordy (b :: r))) ∧ Below w.heap.size w w' := by
 have hb0 : FltLaw.letter ((⟨(b :: r).toArray⟩ : ByteArray)[0]'(by show 0 < (b :: r).toArray.size; simp)) = true := hb
 have HB := Lib.hid hb0
 clear hb hb0
 go_enter Tryz.func55, Tryz.ntmps55
 go_wp2_with (first
  | (go_at_call 80; (with_reducible refine (letter_x _ w true HB.out).mono ?_); rintro e w' ⟨rfl, rfl⟩)
  | (go_at_call 78; (with_reducible refine (all_wordy _ w hl).mono ?_); rintro e w' ⟨rfl, rfl⟩))
 go_ret
 exact ⟨rfl, Below.refl _ _⟩
theorem split_nil (w : World) (hm : MaxVar w) : Calls Tryz.prog 77 #[.string ⟨#[]⟩, .string ⟨#[46]⟩] w fun e w' => ∃ ad : Addr, e = .returned (.slice (some ad) 1 1) ∧ w'.cell? ad = some (.string ⟨#[]⟩) ∧ Below w.heap.size w w' :=
 (split_any 46 [] w (by simp) hm).mono fun e w' ⟨ad, h1, h2, h3⟩ => ⟨ad, h1, by have := h2 0 [] rfl; simpa [Addr.add] using this, h3⟩
set_option maxHeartbeats 800000 in
set_option maxRecDepth 100000 in
theorem word_empty (w : World) (hm : MaxVar w) : Calls Tryz.prog 55 #[.string ⟨#[]⟩] w fun e w' => e = .returned (.bool false) ∧ Below w.heap.size w w' := by
 go_enter Tryz.func55, Tryz.ntmps55
 go_wp2_with (first
  | (go_at_call 77; (with_reducible refine (split_nil w hm).mono ?_); rintro e w1 ⟨ad, rfl, hc, hb1⟩))
 go_loop [19] (fun i => ∃ k : Nat, k ≤ 1 ∧ i = .int .i64 k ∧ k = 0) (fun i => 1 - (RowKit.intOf i).toNat)
 case atStart => exact ⟨0, Nat.zero_le _, rfl, rfl⟩
 case round =>
  obtain ⟨k, hk, rfl, rfl⟩ := hrel
  have hc0 : w1.cell? (ad.add 0) = some (.string ⟨#[]⟩) := by simpa [Addr.add] using hc
  go_wp2_with (go_at_call 78; (with_reducible refine (all_digit_x [] _ (by simp) false rfl).mono ?_); rintro e w' ⟨rfl, rfl⟩)
  go_ret
  exact ⟨rfl, hb1⟩
theorem word_p (l : List UInt8) (w : World) (hl : l.length < 4294967281) (hm : MaxVar w) :
  Calls Tryz.prog 55 #[.string ⟨l.toArray⟩] w fun e w' => e = .returned (.bool (FltLaw.word l)) ∧ Below w.heap.size w w' := by
 cases l with
 | nil => exact word_empty w hm
 | cons b r =>
  cases hb : FltLaw.letter b
  ·unfold FltLaw.word
   rw [show (!(b :: r).isEmpty && FltLaw.letter ((b :: r).headD 0)) = false by simp [hb]]
   exact word_rest b r w hl hm hb
  ·unfold FltLaw.word
   rw [show (!(b :: r).isEmpty && FltLaw.letter ((b :: r).headD 0)) = true by simp [hb]]
   exact word_head b r w (by omega) hb
end Go.Proofs.YtdkfmckbeagenaaGreatDoor

namespace Go.Proofs.YtdkfmckbeagenaaGreatDoor
open Go.RowKit Go.FltLaw Go.Lib

theorem word_x (l : List UInt8) (w : World) (hl : l.length < 4294967281) (hm : MaxVar w) :
  Calls Tryz.prog 55 #[.string ⟨l.toArray⟩] w fun e w' => ∃ x, Hid (FltLaw.word l = x) ∧ e = .returned (.bool x) ∧ Below w.heap.size w w' :=
 (word_p l w hl hm).mono fun _ _ ⟨h1, h2⟩ => ⟨_, rfl, h1, h2⟩
theorem all_wordy_x (l : List UInt8) (w : World) (hl : l.length ≤ 9223372036854775807) :
  Calls Tryz.prog 78 #[.string ⟨l.toArray⟩, .func (.func 79) #[] #[]] w fun e w' => ∃ x, Hid (allOf FltLaw.wordy l = x) ∧ e = .returned (.bool x) ∧ w = w' :=
 (all_wordy l w hl).mono fun _ _ ⟨h1, h2⟩ => ⟨_, rfl, h1, h2⟩
theorem drop_take {l : List (List UInt8)} {k : Nat} {p : List UInt8 → Bool} (h : ((l.drop 1).take k).all p = true) (hk : k + 1 < l.length) : ((l.drop 1).take (k + 1)).all p = p l[k + 1] := by
 have h1 : k < (l.drop 1).length := by simp; omega
 rw [rows_take h h1]
 simp
theorem drop_stop {l : List (List UInt8)} {k : Nat} {p : List UInt8 → Bool} (hk : k + 1 < l.length) (h : p l[k + 1] = false) : (l.drop 1).all p = false := by
 have h1 : k < (l.drop 1).length := by simp; omega
 exact rows_stop h1 (by simpa using h)
def PiecedM (n : Nat) (F : Nat → List UInt8) (w : World) (e : Ending) (w' : World) : Prop :=
 ∃ ad : Addr, e = .returned (.slice (some ad) n n) ∧ (∀ j, j < n → w'.cell? (ad.add j) = some (.string ⟨(F j).toArray⟩)) ∧ Below w.heap.size w w'
theorem split_m (c : UInt8) (l : List UInt8) (w : World) (n : Nat) (F : Nat → List UInt8) (hn : (pieces c l).length = n) (hF : ∀ j (h : j < (pieces c l).length), F j = (pieces c l)[j]) (hl : l.length < 4294967281) (hm : MaxVar w) :
  Calls Tryz.prog 77 #[.string ⟨l.toArray⟩, .string ⟨#[c]⟩] w (PiecedM n F w) :=
 (split_any c l w hl hm).mono fun e w' ⟨ad, h1, h2, h3⟩ => ⟨ad, by rw [h1, hn], fun j hj => by
  have hj' : j < (pieces c l).length := by omega
  rw [hF j hj', h2 j _ (List.getElem?_eq_getElem hj')], h3⟩
theorem add_more (ad : Addr) (k : Nat) : (⟨ad.block, ad.off + 1 + k, none⟩ : Addr) = ad.add (k + 1) := by
 unfold Addr.add
 simp; omega
set_option maxHeartbeats 1600000 in
set_option maxRecDepth 100000 in
theorem described_one (l : List UInt8) (w : World) (q : List UInt8) (hn : pieces 59 l = [q]) (hl : l.length < 4294967281) (hm : MaxVar w) (hM : 1 < w.heap.size) :
  Calls Tryz.prog 54 #[.string ⟨l.toArray⟩] w fun e w' => e = .returned (.bool (FltLaw.word q)) ∧ Below w.heap.size w w' := by
 have hq : q.length ≤ l.length := pieces_mem_le 59 l q (by rw [hn]; simp)
 have hn1 : (pieces 59 l).length = 1 := by rw [hn]; rfl
 have hF : ∀ j (h : j < (pieces 59 l).length), (fun _ => q) j = (pieces 59 l)[j] := fun j h => by
  have : j = 0 := by omega
  subst this
  simp [hn]
 have HN := Lib.hid hn1
 have HF := Lib.hid hF
 clear hn hn1 hF
 go_enter Tryz.func54, Tryz.ntmps54
 go_wp2_with (first
  | (go_at_call 77; (with_reducible refine (split_m 59 l w 1 _ HN.out HF.out hl hm).mono ?_); rintro e w1 ⟨ad, rfl, hc0, hb1⟩; have hc := hc0 0 (by omega); have HC := Lib.hid hc; clear hc hc0))
 go_loop [11] (fun i => i = .int .i64 0) (fun i => 1 - (RowKit.intOf i).toNat)
 case atStart => exact rfl
 case round =>
  subst hrel
  have hc : w1.cell? ad = some (.string ⟨q.toArray⟩) := by simpa [Addr.add] using HC.out
  go_wp2_with (go_at_call 55; (with_reducible refine (word_p q _ (by omega) (hm.below hb1 hM)).mono ?_); rintro e w2 ⟨rfl, hb2⟩)
  go_ret
  exact ⟨rfl, hb1.trans (hb2.mono hb1.size)⟩
set_option maxHeartbeats 1600000 in
set_option maxRecDepth 100000 in
theorem described_more (l : List UInt8) (w : World) (m : Nat) (hm1 : 1 ≤ m) (hn : (pieces 59 l).length = m + 1) (hl : l.length < 4294967281) (hm : MaxVar w) (hM : 1 < w.heap.size) :
  Calls Tryz.prog 54 #[.string ⟨l.toArray⟩] w fun e w' => e = .returned (.bool (FltLaw.desc l)) ∧ Below w.heap.size w w' := by
 have hm63 : m ≤ l.length := by have := pieces_le 59 l; omega
 have hF : ∀ j (h : j < (pieces 59 l).length), (fun j => (pieces 59 l).getD j []) j = (pieces 59 l)[j] := fun j h => by simp [List.getElem?_eq_getElem h]
 have hql : ∀ j, ((pieces 59 l).getD j []).length ≤ l.length := fun j => by
  by_cases h : j < (pieces 59 l).length
  ·rw [show (pieces 59 l).getD j [] = (pieces 59 l)[j] from hF j h]; exact pieces_mem_le 59 l _ (List.getElem_mem h)
  ·simp [List.getElem?_eq_none (Nat.le_of_not_lt h)]
 have hds : FltLaw.desc l = (FltLaw.word ((pieces 59 l).getD 0 []) && ((pieces 59 l).drop 1).all (allOf FltLaw.wordy)) := by
  unfold FltLaw.desc
  congr 2
  cases pieces 59 l <;> rfl
 have HF := Lib.hid hF
 have HQ := Lib.hid hql
 have HD := Lib.hid hds
 have HN := Lib.hid hn
 clear hF hql hds hn
 go_enter Tryz.func54, Tryz.ntmps54
 go_wp2_with (first
  | (go_at_call 77; (with_reducible refine (split_m 59 l w (m + 1) _ HN.out HF.out hl hm).mono ?_); rintro e w1 ⟨ad, rfl, hc0, hb1⟩; have HC := Lib.hid hc0; clear hc0))
 go_loop [11] (fun i => ∃ k : Nat, k ≤ m ∧ i = .int .i64 k ∧ (((pieces 59 l).drop 1).take k).all (allOf FltLaw.wordy) = true) (fun i => m - (RowKit.intOf i).toNat)
 case atStart => exact ⟨0, Nat.zero_le _, rfl, rfl⟩
 case round =>
  obtain ⟨k, hk, rfl, hall⟩ := hrel
  have HA := Lib.hid hall
  clear hall
  by_cases hlt : k < m
  ·have hc : w1.cell? ⟨ad.block, ad.off + 1 + k, none⟩ = some (.string ⟨((pieces 59 l).getD (k + 1) []).toArray⟩) := by rw [add_more]; exact HC.out (k + 1) (by omega)
   have hr := HQ.out (k + 1)
   have hq : (pieces 59 l).getD (k + 1) [] = (pieces 59 l)[k + 1]'(by have := HN.out; omega) := HF.out (k + 1) _
   generalize (pieces 59 l).getD (k + 1) [] = q at hc hr hq
   have HQ := Lib.hid hq
   clear hq
   have hlt2 : k + 1 < (pieces 59 l).length := by have := HN.out; omega
   go_wp2_with (go_at_call 78; (with_reducible refine (all_wordy_x q _ (by omega)).mono ?_); rintro e w' ⟨b, HB, rfl, rfl⟩)
   ·have hb : (!b) = true := by assumption
    go_ret
    refine ⟨ret_bool ?_, hb1⟩
    rw [HD.out, drop_stop hlt2 (by rw [← HQ.out, HB.out]; simpa using hb)]
    simp
   ·have hb : (!b) = false := by assumption
    go_round
    case rel => exact ⟨k + 1, by omega, by go_num, by rw [drop_take HA.out hlt2, ← HQ.out, HB.out]; simpa using hb⟩
    case measure => simp [RowKit.intOf]; omega
  ·have hc0 := HC.out 0 (by omega)
   have hr := HQ.out 0
   generalize hq : (pieces 59 l).getD 0 [] = q at hc0 hr
   have HQ := Lib.hid hq
   clear hq
   have hc : w1.cell? ad = some (.string ⟨q.toArray⟩) := by simpa [Addr.add] using hc0
   clear hc0
   go_wp2_with (go_at_call 55; (with_reducible refine (word_p q _ (by omega) (hm.below hb1 hM)).mono ?_); rintro e w2 ⟨rfl, hb2⟩)
   go_ret
   have ek : (((pieces 59 l).drop 1).take k) = (pieces 59 l).drop 1 := List.take_of_length_le (by have := HN.out; simp; omega)
   rw [ek] at HA
   exact ⟨ret_bool (by rw [HD.out, HA.out, HQ.out]; simp), hb1.trans (hb2.mono hb1.size)⟩
theorem described_p (l : List UInt8) (w : World) (hl : l.length < 4294967281) (hm : MaxVar w) (hM : 1 < w.heap.size) :
  Calls Tryz.prog 54 #[.string ⟨l.toArray⟩] w fun e w' => e = .returned (.bool (FltLaw.desc l)) ∧ Below w.heap.size w w' := by
 cases hq : pieces 59 l with
 | nil => exact absurd hq (pieces_ne _ _)
 | cons q qs =>
  cases qs with
  | nil =>
   have e : FltLaw.desc l = FltLaw.word q := by simp [FltLaw.desc, hq]
   rw [e]
   exact described_one l w q hq hl hm hM
  | cons q' qs => exact described_more l w (qs.length + 1) (by omega) (by rw [hq]; rfl) hl hm hM
end Go.Proofs.YtdkfmckbeagenaaGreatDoor

namespace Go.Proofs.YtdkfmckbeagenaaGreatDoor
open Go.RowKit Go.FltLaw Go.Lib

def TxtsAt (w : World) (B : Nat) (MA : Option Addr) (ms : List (List UInt8)) : Prop :=
 0 < ms.length → ∃ ad, MA = some ad ∧ ad.block < B ∧ ∀ j u, ms[j]? = some u → w.cell? (ad.add j) = some (.string ⟨u.toArray⟩)
theorem TxtsAt.keep {w w' : World} {B : Nat} {MA : Option Addr} {ms : List (List UInt8)} (h : TxtsAt w B MA ms) (hk : ∀ p : Addr, p.block < B → w'.cell? p = w.cell? p) : TxtsAt w' B MA ms := fun h0 =>
 let ⟨ad, h1, h2, h3⟩ := h h0
 ⟨ad, h1, h2, fun j u hu => (hk _ (by rw [RankLaw.add_block]; exact h2)).trans (h3 j u hu)⟩
theorem TxtsAt.below {w w' : World} {B : Nat} {MA : Option Addr} {ms : List (List UInt8)} (h : TxtsAt w B MA ms) (hb : Below B w w') : TxtsAt w' B MA ms := h.keep fun _ hp => hb.cell hp
theorem TxtsAt.alloc {w : World} {B : Nat} {MA : Option Addr} {ms : List (List UInt8)} (h : TxtsAt w B MA ms) (hB : B ≤ w.heap.size) (o : Obj) : TxtsAt (w.alloc o) B MA ms := h.keep fun p hp => World.cell?_alloc_lt w o p (by omega)
theorem int_val {a b : Int} (h : a = b) : Value.int .i64 a = .int .i64 b := by rw [h]
def LongAt (ds vl st : List UInt8) (ms : List (List UInt8)) (fn rl : List UInt8) (k N : Nat) : Prop := N ≤ 140737488351232 ∧ (65536 < N ↔ FltLaw.long ds vl st (ms.take k) fn rl = true)
theorem LongAt.next {ds vl st : List UInt8} {ms : List (List UInt8)} {fn rl : List UInt8} {k N : Nat} (h : LongAt ds vl st ms fn rl k N) (hk : k < ms.length) (hm : ms[k].length ≤ 140737488351232) : LongAt ds vl st ms fn rl (k + 1) (max N ms[k].length) := by
 refine ⟨by have := h.1; omega, ?_⟩
 have h2 := h.2
 unfold FltLaw.long at h2 ⊢
 rw [List.take_succ_eq_append_getElem hk, List.any_append]
 simp only [Bool.or_eq_true, decide_eq_true_eq] at h2 ⊢
 simp only [List.any_cons, List.any_nil, Bool.or_false, decide_eq_true_eq]
 generalize hq : (ms.take k).any (fun m => decide (65536 < m.length)) = q at h2 ⊢
 clear hq
 cases q <;> simp only [or_true, or_false, Bool.false_eq_true, iff_true, true_or, false_or] at h2 ⊢ <;> omega
theorem run_max5 (ts : Array TypeId) (t : TypeId) (a b c d e : Nat) (w : World) : (Builtin.max_ ts t #[.int .i64 a, .int .i64 b, .int .i64 c, .int .i64 d, .int .i64 e]).run Tryz.prog w = .ok (.int .i64 ((max a (max b (max c (max d e))) : Nat) : Int)) w := by
 have h2 : ∀ x y : Nat, (if (y : Int) > x then (y : Int) else x) = ((max x y : Nat) : Int) := fun x y => by split <;> omega
 simp [Builtin.max_, Builtin.max2]
 omega
set_option maxHeartbeats 1600000 in
set_option maxRecDepth 100000 in
theorem long_p (k : Int) (KA : Option Addr) (kn kc : Nat) (ds vl st : List UInt8) (MA : Option Addr) (ms : List (List UInt8)) (mn mc : Nat) (fn rl : List UInt8) (dn : Bool) (w : World) (hmn : ms.length = mn) (hm : TxtsAt w w.heap.size MA ms)
  (f1 : ds.length ≤ 140737488351232) (f2 : vl.length ≤ 140737488351232) (f3 : st.length ≤ 140737488351232) (f4 : fn.length ≤ 140737488351232) (f5 : rl.length ≤ 140737488351232) (f6 : mn * 16 ≤ 140737488351232) (f7 : ∀ m ∈ ms, m.length ≤ 140737488351232) :
  Calls Tryz.prog 34 #[.agg #[.int .i8 k, .slice KA kn kc, .string ⟨ds.toArray⟩, .string ⟨vl.toArray⟩, .string ⟨st.toArray⟩, .slice MA mn mc, .string ⟨fn.toArray⟩, .string ⟨rl.toArray⟩, .bool dn]] w
   fun e w' => e = .returned (.bool (FltLaw.long ds vl st ms fn rl)) ∧ Below w.heap.size w w' := by
 have F7 := Lib.hid f7
 have HN := Lib.hid hmn
 have HM := Lib.hid hm
 clear f7 hmn hm
 have hmax := run_max5
 go_enter Tryz.func34, Tryz.ntmps34
 go_wp2_with fail
 have B0 : LongAt ds vl st ms fn rl 0 (max ds.length (max vl.length (max st.length (max fn.length rl.length)))) := by
  refine ⟨by omega, ?_⟩
  simp only [FltLaw.long, List.take_zero, List.any_nil, Bool.or_false, Bool.or_eq_true, decide_eq_true_eq]
  omega
 generalize max ds.length (max vl.length (max st.length (max fn.length rl.length))) = N0 at B0
 go_loop [3, 25] (fun n i => ∃ k N : Nat, k ≤ mn ∧ i = .int .i64 k ∧ n = .int .i64 N ∧ LongAt ds vl st ms fn rl k N) (fun _ i => mn - (RowKit.intOf i).toNat)
 case atStart => exact ⟨0, _, Nat.zero_le _, rfl, rfl, B0⟩
 case round =>
  obtain ⟨k, N, hk, rfl, rfl, hL⟩ := hrel
  have HL := Lib.hid hL
  clear hL B0
  by_cases hlt : k < mn
  ·have hlt' : k < ms.length := by have := HN.out; omega
   obtain ⟨ad, rfl, hb, hcell⟩ := HM.out (by omega)
   have hq := F7.out _ (List.getElem_mem hlt')
   have hc : ∀ o, (w.alloc o).cell? (ad.add k) = some (.string ⟨ms[k].toArray⟩) := fun o => (World.cell?_alloc_lt w o (ad.add k) (by rw [RankLaw.add_block]; exact hb)).trans (hcell k _ (List.getElem?_eq_getElem hlt'))
   have HC := Lib.hid hcell
   clear hcell
   go_wp2_with fail
   go_round
   case rel => exact ⟨k + 1, _, by omega, by go_num, int_val (by omega), HL.out.next hlt' hq⟩
   case measure => simp [RowKit.intOf]; omega
  ·go_wp2_with fail
   go_ret
   have ek : k = ms.length := by have := HN.out; omega
   have h2 := HL.out.2
   rw [ek, List.take_length] at h2
   exact ⟨ret_bool (by rw [← h2]; simp; omega), (Below.refl _ _).alloc (Nat.le_refl _) _⟩
end Go.Proofs.YtdkfmckbeagenaaGreatDoor

namespace Go.Proofs.YtdkfmckbeagenaaGreatDoor
open Go.RowKit Go.FltLaw Go.Lib

theorem extraX : Builder.Extra Tryz.prog l159_ren where
 sizeBuilder := by kernel_rfl
 liesBuilder := by kernel_rfl
 t5 := Tryz.underlying5
 a5 := Tryz.isAgg5
 z5 := Tryz.sizeOf5
 v5 := Tryz.zeroValue5
 infoByte := by kernel_rfl
 cellsByte := by kernel_rfl
 sizeByte := by kernel_rfl
 neB5 := by decide
theorem bool_val {a b : Bool} (h : a = b) : Value.bool a = .bool b := by rw [h]
theorem digit_ascii {b : UInt8} (h : FltLaw.digit b = true) : b.toNat < 128 := by simp [FltLaw.digit] at h; omega
theorem letter_ascii {b : UInt8} (h : FltLaw.letter b = true) : b.toNat < 128 := by simp [FltLaw.letter] at h; omega
theorem wordy_ascii {b : UInt8} (h : FltLaw.wordy b = true) : b.toNat < 128 := by
 simp only [FltLaw.wordy, Bool.or_eq_true, beq_iff_eq] at h
 rcases h with (h | h) | h
 ·exact letter_ascii h
 ·exact digit_ascii h
 ·subst h; decide
theorem pieces_all {c : UInt8} {P : UInt8 → Prop} (hc : P c) : ∀ {l : List UInt8}, (∀ p ∈ pieces c l, ∀ b ∈ p, P b) → ∀ b ∈ l, P b
 | [], _, b, hb => by cases hb
 | a :: l, h, b, hb => by
  by_cases ha : a = c
  ·subst ha
   rw [pieces, if_pos rfl] at h
   rcases List.mem_cons.1 hb with rfl | hb
   ·exact hc
   ·exact pieces_all hc (fun p hp => h p (by simp [hp])) b hb
  ·obtain ⟨q, qs, e1, e2⟩ := pieces_cons_ne (l := l) ha
   rw [e2] at h
   rcases List.mem_cons.1 hb with rfl | hb
   ·exact h _ (List.mem_cons_self ..) _ (List.mem_cons_self ..)
   ·refine pieces_all hc (fun p hp => ?_) b hb
    rw [e1] at hp
    rcases List.mem_cons.1 hp with rfl | hp
    ·exact fun x hx => h _ (List.mem_cons_self ..) _ (List.mem_cons_of_mem _ hx)
    ·exact h p (List.mem_cons_of_mem _ hp)
theorem word_ascii {l : List UInt8} (h : FltLaw.word l = true) : ∀ b ∈ l, b.toNat < 128 := by
 unfold FltLaw.word at h
 split at h
 ·simp only [allOf, Bool.and_eq_true, List.all_eq_true] at h
  exact fun b hb => wordy_ascii (h.1 b hb)
 ·simp only [Bool.and_eq_true, List.all_eq_true] at h
  refine pieces_all (c := 46) (P := fun b => b.toNat < 128) (by decide) fun p hp b hb => ?_
  have := h.1 p hp
  simp only [FltLaw.row, allOf, Bool.and_eq_true, List.all_eq_true] at this
  exact digit_ascii (this.1.1 b hb)
theorem lower_small (l : List UInt8) : Lib.toLowerA l = l.map FltLaw.small := by
 unfold Lib.toLowerA
 refine List.map_congr_left fun b _ => ?_
 unfold Lib.lowerB Lib.isUpperB FltLaw.small
 simp [UInt8.le_iff_toNat_le]
theorem lower_p (l : List UInt8) (w : World) (hl : l.length ≤ 140737488355328) (hw : FltLaw.word l = true) :
  Calls Tryz.prog 56 #[.string ⟨l.toArray⟩] w fun e w' => e = .returned (.string ⟨(l.map FltLaw.small).toArray⟩) ∧ Below w.heap.size w w' := by
 have h := Go.Proofs.Any.strings_ToLower_ascii l159 extraX ⟨l.toArray⟩ w (by show l.toArray.size ≤ _; simpa using hl) (fun j b hb => word_ascii hw b (List.mem_of_getElem? hb))
 rw [← lower_small]
 exact h
theorem desc_x (l : List UInt8) (w : World) (hl : l.length < 4294967281) (hm : MaxVar w) (hM : 1 < w.heap.size) :
  Calls Tryz.prog 54 #[.string ⟨l.toArray⟩] w fun e w' => ∃ x, Hid (FltLaw.desc l = x) ∧ e = .returned (.bool x) ∧ Below w.heap.size w w' :=
 (described_p l w hl hm hM).mono fun _ _ ⟨h1, h2⟩ => ⟨_, rfl, h1, h2⟩
theorem right_PR {k : Int} {kn : Nat} {ds vl st : List UInt8} {ms : List (List UInt8)} {mn : Nat} {fn rl : List UInt8} {dn P R : Bool} (hmn : ms.length = mn) (hP : (!st.isEmpty || !fn.isEmpty || decide (0 < mn)) = P) (hR : (!rl.isEmpty || dn) = R) :
  FltLaw.right k kn ds vl st ms fn rl dn =
   if k = 0 ∨ k = 1 ∨ k = 2 then decide (0 < kn) && (kn == 1 || decide (k ≠ 2)) && ds.isEmpty && vl.isEmpty && !P && !R
   else if k = 9 then kn == 0 && !P && (!ds.isEmpty || !rl.isEmpty) && (ds.isEmpty || desc ds) && (rl.isEmpty || FltLaw.word rl && !isDn rl)
   else if k = 4 then ms.all (fun m => !m.isEmpty) && kn == 0 && P && !R && vl.isEmpty && desc ds
   else if k = 7 then kn == 0 && !P && !R && vl.isEmpty && desc ds
   else if k = 3 ∨ k = 5 ∨ k = 6 ∨ k = 8 then kn == 0 && !P && !R && desc ds
   else false := by
 subst hmn hP hR
 have e : (!ms.isEmpty) = decide (0 < ms.length) := by cases ms <;> simp
 unfold FltLaw.right
 rw [e]
end Go.Proofs.YtdkfmckbeagenaaGreatDoor
