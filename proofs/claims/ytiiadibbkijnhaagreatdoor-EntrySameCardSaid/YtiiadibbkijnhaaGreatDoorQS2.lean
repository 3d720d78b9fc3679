/-
  rosterlaw08.beyond of an entry's attributes alone: some answer; mark.
  rosterlaw08.mark: a text of one's own.
-/
import Derived.Test.YtiiadibbkijnhaaGreatDoorQS1
namespace Go.Proofs.YtiiadibbkijnhaaGreatDoor
open Go.RowKit Go.FltLaw Go.EntLaw Go.Lib Go.RankLaw

def noSchema : Value := .agg #[.slice none 0 0, .slice none 0 0]
set_option maxHeartbeats 3200000 in
set_option maxRecDepth 100000 in
theorem beyond8_p (l : List Atr) (KA : Option Addr) (kc : Nat) (w : World) (B : Nat) (hE : EAt w 0 B l KA kc) (hB : B ≤ w.heap.size) :
    Calls Tryz.prog 16 #[.agg #[.slice none 0 0, .slice none 0 0], .slice KA l.length kc, .slice none 0 0] w fun e w' => (∃ b, e = .returned (.bool b)) ∧ Below w.heap.size w w' := by
  have H := Lib.hid hE
  have hn := hE.n1
  clear hE
  go_enter Tryz.func16, Tryz.ntmps16
  have hb1 := (Below.refl w.heap.size w).alloc (Nat.le_refl _) (.cells #[.slice none 0 0, .slice none 0 0] 44)
  have HB1 := Lib.hid hb1
  clear hb1
  go_wp2_with fail
  go_loopw [7, 22] (fun n i wr => n = .int .i64 0 ∧ i = .int .i64 0 ∧ wr = w.alloc (.cells #[.slice none 0 0, .slice none 0 0] 44)) (fun _ _ _ => 0)
  case atStart => exact ⟨rfl, rfl, rfl⟩
  case round =>
    obtain ⟨rfl, rfl, rfl⟩ := hrel
    go_wp2_with fail
    go_loopw [7, 73] (fun n i wr => n = .int .i64 0 ∧ i = .int .i64 0 ∧ wr = w.alloc (.cells #[.slice none 0 0, .slice none 0 0] 44)) (fun _ _ _ => 0)
    case atStart => exact ⟨rfl, rfl, rfl⟩
    case round =>
      obtain ⟨rfl, rfl, rfl⟩ := hrel
      go_wp2_with fail
      go_loopw [7, 127] (fun n i wr => ∃ (z : Int) (j : Nat), j ≤ l.length ∧ n = .int .i64 z ∧ i = .int .i64 j ∧ wr = w.alloc (.cells #[.slice none 0 0, .slice none 0 0] 44)) (fun _ i _ => l.length - (RowKit.intOf i).toNat)
      case atStart => exact ⟨0, 0, Nat.zero_le _, rfl, rfl, rfl⟩
      case round =>
        obtain ⟨z, j, hj, rfl, rfl, rfl⟩ := hrel
        by_cases hlt : j < l.length
        · obtain ⟨ad, rfl, _, hadB, hel⟩ := H.out.at_ (by omega)
          have hk := List.getElem?_eq_getElem hlt
          generalize l[j] = q at hk
          obtain ⟨_, A, c, hv, e0, e1⟩ := hel j q hk
          obtain ⟨m0, m1⟩ := two_at (((HB1.out.mono hB).cell (p := ad.add (j * 2)) (by rw [RankLaw.add_block]; exact hadB)).trans e0) (((HB1.out.mono hB).cell (p := ad.add (j * 2 + 1)) (by rw [RankLaw.add_block]; exact hadB)).trans e1)
          unfold txt at m0
          have hvn := hv.n1
          have HV := Lib.hid hv
          clear hel hk hv e0 e1
          go_wp2_with fail
          go_loopw [7, 145] (fun n i wr => ∃ (z : Int) (k : Nat), k ≤ q.vs.length ∧ n = .int .i64 z ∧ i = .int .i64 k ∧ wr = w.alloc (.cells #[.slice none 0 0, .slice none 0 0] 44)) (fun _ i _ => q.vs.length - (RowKit.intOf i).toNat)
          case atStart => exact ⟨_, 0, Nat.zero_le _, rfl, rfl, rfl⟩
          case round =>
            obtain ⟨z2, k, hk, rfl, rfl, rfl⟩ := hrel
            by_cases hklt : k < q.vs.length
            · obtain ⟨av, rfl, _, havB, hev⟩ := HV.out.at_ (by omega)
              have hkv := List.getElem?_eq_getElem hklt
              generalize q.vs[k] = x at hkv
              have v1 := ((HB1.out.mono hB).cell (p := av.add k) (by rw [RankLaw.add_block]; exact havB)).trans (hev k x hkv)
              unfold txt at v1
              clear hev hkv
              go_wp2_with fail
              · go_ret
                exact ⟨⟨_, rfl⟩, HB1.out⟩
              · go_round
                case rel => exact ⟨_, k + 1, by omega, rfl, by go_num, trivial⟩
                case measure => simp [RowKit.intOf]; omega
            · have ek : k = q.vs.length := by omega
              subst ek
              go_wp2_with fail
              go_round
              case rel => exact ⟨_, j + 1, by omega, rfl, by go_num, trivial⟩
              case measure => simp [RowKit.intOf]; omega
        · have ej : j = l.length := by omega
          subst ej
          go_wp2_with fail
          go_loopw [7, 166] (fun n i wr => n = .int .i64 z ∧ i = .int .i64 0 ∧ wr = w.alloc (.cells #[.slice none 0 0, .slice none 0 0] 44)) (fun _ _ _ => 0)
          case atStart => exact ⟨rfl, rfl, rfl⟩
          case round =>
            obtain ⟨rfl, rfl, rfl⟩ := hrel
            go_wp2_with fail
            go_ret
            exact ⟨⟨_, rfl⟩, HB1.out⟩
end Go.Proofs.YtiiadibbkijnhaaGreatDoor

namespace Go.Proofs.YtiiadibbkijnhaaGreatDoor
open Go.RowKit Go.FltLaw Go.EntLaw Go.Lib Go.RankLaw

@[irreducible] def runeText (n : Int) : ByteArray := Utf8.encode n
@[local go_sem] theorem enc_rune (n : Int) : Utf8.encode n = runeText n := by unfold runeText; rfl

theorem rune_size (n : Int) : (runeText n).size ≤ 4 := by
  unfold runeText Utf8.encode
  generalize (if Utf8.valid n then n.toNat else Utf8.runeError) = c
  dsimp only
  by_cases h1 : c < 0x80
  · rw [if_pos h1]; exact (show (1 : Nat) ≤ 4 by omega)
  · rw [if_neg h1]
    by_cases h2 : c < 0x800
    · rw [if_pos h2]; exact (show (2 : Nat) ≤ 4 by omega)
    · rw [if_neg h2]
      by_cases h3 : c < 0x10000
      · rw [if_pos h3]; exact (show (3 : Nat) ≤ 4 by omega)
      · rw [if_neg h3]; exact (show (4 : Nat) ≤ 4 by omega)
def marks (i : Nat) : ByteArray := runeText (97 + (i : Int) % 26) ++ runeText (97 + (i : Int) / 26 % 26) ++ runeText (97 + (i : Int) / 676 % 26)

set_option maxHeartbeats 3200000 in
set_option maxRecDepth 100000 in
theorem mark_p (i : Nat) (hi : i ≤ 281474976710656) (w : World) : Calls Tryz.prog 45 #[.int .i64 i] w fun e w' => e = .returned (.string (marks i)) ∧ w' = w := by
  have s1 := rune_size (97 + (i : Int) % 26)
  have s2 := rune_size (97 + (i : Int) / 26 % 26)
  have s3 := rune_size (97 + (i : Int) / 676 % 26)
  go_enter Tryz.func45, Tryz.ntmps45
  go_wp2_with fail
  go_ret
  exact ⟨rfl, rfl⟩
end Go.Proofs.YtiiadibbkijnhaaGreatDoor
