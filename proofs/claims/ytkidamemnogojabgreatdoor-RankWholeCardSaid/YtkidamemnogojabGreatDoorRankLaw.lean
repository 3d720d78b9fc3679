/-
  Page by page: decimal numerals and what strconv.Atoi makes of them. Plain law; no program.
-/
import Derived.Lib.ItoaNum
import Derived.Lib.AtoiAll
namespace Go.RankLaw
open Go.Lib

theorem parse_app : ∀ (l r : List UInt8) (acc u : Nat), parseUint10 acc l = .ok u → parseUint10 acc (l ++ r) = parseUint10 u r
  | [], r, acc, u, h => by simp only [parseUint10] at h; injection h with h; subst h; rfl
  | c :: l, r, acc, u, h => by
    simp only [List.cons_append, parseUint10] at h ⊢
    split at h
    · rename_i h1
      rw [if_pos h1]
      split at h
      · cases h
      · rename_i h2
        rw [if_neg h2]
        split at h
        · cases h
        · rename_i h3
          rw [if_neg h3]
          exact parse_app l r _ u h
    · cases h

theorem dec_ten {u : Nat} (h : ¬ u < 10) : decDigits u = decDigits (u / 10) ++ [UInt8.ofNat (48 + u % 10)] := by
  rw [decDigits, dif_neg h]

theorem digit_nat {k : Nat} (h : k < 10) : (UInt8.ofNat (48 + k)).toNat = 48 + k := by
  rw [UInt8.toNat_ofNat']; omega

theorem parse_one {acc k : Nat} (hk : k < 10) (ha : acc < 1844674407370955161) : parseUint10 acc [UInt8.ofNat (48 + k)] = .ok (acc * 10 + k) := by
  simp only [parseUint10, digit_nat hk]
  rw [if_pos ⟨by omega, by omega⟩, if_neg (by omega), if_neg (by omega)]
  congr 1
  omega

theorem parse_dec (u : Nat) (hu : u < 9223372036854775808) : parseUint10 0 (decDigits u) = .ok u := by
  induction u using Nat.strongRecOn with
  | ind u ih =>
    by_cases h : u < 10
    · rw [decDigits_one h, parse_one h (by omega)]; congr 1; omega
    · rw [dec_ten h, parse_app _ _ _ _ (ih (u / 10) (by omega) (by omega)), parse_one (by omega) (by omega)]
      congr 1; omega

theorem dec_head (u : Nat) : ∃ c r, decDigits u = c :: r ∧ 48 ≤ c.toNat ∧ c.toNat ≤ 57 := by
  induction u using Nat.strongRecOn with
  | ind u ih =>
    by_cases h : u < 10
    · exact ⟨_, _, decDigits_one h, by rw [digit_nat h]; omega, by rw [digit_nat h]; omega⟩
    · obtain ⟨c, r, e, h1, h2⟩ := ih (u / 10) (by omega)
      exact ⟨c, r ++ [UInt8.ofNat (48 + u % 10)], by rw [dec_ten h, e]; rfl, h1, h2⟩

theorem atoi_dec (u : Nat) (hu : u < 9223372036854775808) : atoiAll (decDigits u) = .ok (u : Int) := by
  obtain ⟨c, r, e, h1, h2⟩ := dec_head u
  have hp := parse_dec u hu
  rw [e] at hp ⊢
  have hne : ¬ (c.toNat = 43 ∨ c.toNat = 45) := by omega
  simp only [atoiAll]
  rw [if_neg hne]
  simp only [parseMag, List.cons_ne_nil, if_false, hp, show ¬ c.toNat = 45 by omega, not_false_eq_true, true_and, false_and, if_false]
  rw [if_neg (by omega)]

theorem dec_inj {a b : Nat} (ha : a < 9223372036854775808) (hb : b < 9223372036854775808) (h : decDigits a = decDigits b) : a = b := by
  have h1 := atoi_dec a ha
  have h2 := atoi_dec b hb
  rw [h, h2] at h1
  injection h1 with h1
  omega

theorem dec_ne_nil (u : Nat) : decDigits u ≠ [] := by
  obtain ⟨c, r, e, _⟩ := dec_head u
  rw [e]; exact List.cons_ne_nil _ _

/-- Where a cookie lets a list go on. -/
def OkAt (len : Nat) (s : List UInt8) (i : Nat) : Prop := (s = [] ∧ i = 0) ∨ (1 ≤ i ∧ i ≤ len ∧ s = decDigits i)
theorem OkAt.uniq {len : Nat} {s : List UInt8} {i j : Nat} (hl : len < 9223372036854775808) (h : OkAt len s i) (k : OkAt len s j) : i = j := by
  rcases h with ⟨rfl, rfl⟩ | ⟨h1, h2, rfl⟩
  · rcases k with ⟨_, rfl⟩ | ⟨_, _, e⟩
    · rfl
    · exact absurd e.symm (dec_ne_nil j)
  · rcases k with ⟨e, _⟩ | ⟨k1, k2, e⟩
    · exact absurd e (dec_ne_nil i)
    · exact dec_inj (by omega) (by omega) e

/-- What a page is: of a list, a cookie and a number: the part, the next cookie, the error. -/
def IsPage (xs : List Int) (s : List UInt8) (n : Int) (ys : List Int) (nx : List UInt8) (er : Int) : Prop :=
  (n < 1 ∧ ys = [] ∧ nx = [] ∧ er = 2) ∨
  (1 ≤ n ∧ (∀ i, ¬ OkAt xs.length s i) ∧ ys = [] ∧ nx = [] ∧ er = 221) ∨
  (1 ≤ n ∧ ∃ i, OkAt xs.length s i ∧ er = 0 ∧
    ((n < (xs.length : Int) - i ∧ ys = (xs.drop i).take n.toNat ∧ nx = decDigits (i + n.toNat)) ∨ ((xs.length : Int) - i ≤ n ∧ ys = xs.drop i ∧ nx = [])))

theorem IsPage.uniq {xs ys zs : List Int} {s nx mx : List UInt8} {n er fr : Int} (hl : xs.length < 9223372036854775808) (h : IsPage xs s n ys nx er) (k : IsPage xs s n zs mx fr) : ys = zs ∧ nx = mx ∧ er = fr := by
  rcases h with ⟨a, rfl, rfl, rfl⟩ | ⟨a, b, rfl, rfl, rfl⟩ | ⟨a, i, b, rfl, c⟩
  · rcases k with ⟨_, rfl, rfl, rfl⟩ | ⟨a', _⟩ | ⟨a', _⟩
    · exact ⟨rfl, rfl, rfl⟩
    · omega
    · omega
  · rcases k with ⟨a', _⟩ | ⟨_, _, rfl, rfl, rfl⟩ | ⟨_, j, b', _⟩
    · omega
    · exact ⟨rfl, rfl, rfl⟩
    · exact absurd b' (b j)
  · rcases k with ⟨a', _⟩ | ⟨_, b', _⟩ | ⟨_, j, b', rfl, c'⟩
    · omega
    · exact absurd b (b' i)
    · have e := b.uniq hl b'
      subst e
      rcases c with ⟨c1, rfl, rfl⟩ | ⟨c1, rfl, rfl⟩
      · rcases c' with ⟨_, rfl, rfl⟩ | ⟨c2, _⟩
        · exact ⟨rfl, rfl, rfl⟩
        · omega
      · rcases c' with ⟨c2, _⟩ | ⟨_, rfl, rfl⟩
        · omega
        · exact ⟨rfl, rfl, rfl⟩
end Go.RankLaw
