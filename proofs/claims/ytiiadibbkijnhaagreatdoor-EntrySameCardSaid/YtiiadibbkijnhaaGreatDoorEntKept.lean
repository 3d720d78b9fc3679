/-
  rosterlaw08.kept: a lent entry that lies as it was handed in.
-/
import Derived.Test.YtiiadibbkijnhaaGreatDoorEntTwin
import Derived.Test.YtiiadibbkijnhaaGreatDoorQS1
import Derived.Lib.QuietBelow
namespace Go.Proofs.YtiiadibbkijnhaaGreatDoor
open Go.RowKit Go.FltLaw Go.EntLaw Go.Lib Go.RankLaw

theorem mixed8 : Tryz.prog.follows .mixedOrders = true := by kernel_rfl
/-- A lent entry's marks. -/
structure KAt (w : World) (hi : Nat) (l : List Atr) (ad : Addr) (ck : Nat) : Prop where
  blk : ad.block < hi
  c0 : l.length + 1 ≤ ck
  c1 : ck ≤ maxLen
  sp : w.cell? (ad.add (l.length * 2)) = some spareTxt
  at_ : ∀ i a, l[i]? = some a → ∃ av c, av.block < hi ∧ a.vs.length + 2 ≤ c ∧ c ≤ maxLen ∧ w.cell? (ad.add (i * 2)) = some (txt a.ds) ∧ w.cell? (ad.add (i * 2 + 1)) = some (.slice (some av) a.vs.length c) ∧ w.cell? (av.add a.vs.length) = some spareTxt ∧ w.cell? (av.add (a.vs.length + 1)) = some spareTxt
theorem Lent8.kat {w : World} {lo : Nat} {l : List Atr} {gk ck : Nat} {rs : List Rw} (h : Lent8 w lo l gk ck rs) : KAt w w.heap.size l ⟨gk, 0, none⟩ ck := by
  obtain ⟨r1, r2, r3, r4⟩ := row_form h.row
  have hl : rs.length = l.length := by rw [← h.eq]; simp
  have ad : ∀ g j, (⟨g, 0, none⟩ : Addr).add j = ⟨g, j, none⟩ := fun g j => by unfold Addr.add; split <;> simp_all
  refine ⟨r2, r3, r4, ?_, fun i a hi => ?_⟩
  · rw [ad]
    refine row_cell h.row ?_
    rw [List.getElem?_append_right (by rw [rowCells_len]; omega), rowCells_len, hl, Nat.sub_self]; rfl
  · rw [← h.eq, List.getElem?_map] at hi
    obtain ⟨r, hr, rfl⟩ := Option.map_eq_some_iff.1 hi
    obtain ⟨f1, f2, f3, f4⟩ := h.rws.form hr
    obtain ⟨c1, c2⟩ := rowCells_at hr
    have hlt : i < rs.length := (List.getElem?_eq_some_iff.1 hr).1
    refine ⟨⟨r.g, 0, none⟩, r.c, f2, by simpa using f3, f4, ?_, ?_, ?_, ?_⟩
    · rw [ad]
      exact row_cell h.row (by rw [List.getElem?_append_left (by rw [rowCells_len]; omega)]; exact c1)
    · rw [ad]
      exact row_cell h.row (by rw [List.getElem?_append_left (by rw [rowCells_len]; omega)]; exact c2)
    · rw [ad]
      refine row_cell (h.rws.row i r hr) ?_
      rw [List.getElem?_append_right (by simp)]; simp
    · rw [ad]
      refine row_cell (h.rws.row i r hr) ?_
      rw [List.getElem?_append_right (by simp)]; simp
theorem KAt.keep {w w' : World} {hi : Nat} {l : List Atr} {ad : Addr} {ck : Nat} (h : KAt w hi l ad ck) (hb : Below hi w w') : KAt w' hi l ad ck :=
  ⟨h.blk, h.c0, h.c1, (hb.cell (by rw [RankLaw.add_block]; exact h.blk)).trans h.sp, fun i a hi' => by
    obtain ⟨av, c, h1, h2, h3, h4, h5, h6, h7⟩ := h.at_ i a hi'
    exact ⟨av, c, h1, h2, h3, (hb.cell (by rw [RankLaw.add_block]; exact h.blk)).trans h4, (hb.cell (by rw [RankLaw.add_block]; exact h.blk)).trans h5, (hb.cell (by rw [RankLaw.add_block]; exact h1)).trans h6, (hb.cell (by rw [RankLaw.add_block]; exact h1)).trans h7⟩⟩

set_option maxHeartbeats 3200000 in
set_option maxRecDepth 100000 in
theorem kept_p (l : List Atr) (ad : Addr) (ck : Nat) (KA : Option Addr) (kc : Nat) (w : World) (B : Nat) (hK : KAt w B l ad ck) (hX : EAt w 0 B l (some ad) ck) (hE : EAt w 0 B l KA kc) (hB : B ≤ w.heap.size) :
    Calls Tryz.prog 21 #[ent (some ad) l.length ck, ent KA l.length kc] w fun e w' => e = .returned (.bool true) ∧ Below w.heap.size w w' := by
  have hn := hE.n1
  have hc0 := hK.c0
  have hc1 := hK.c1
  have hadB := hK.blk
  unfold maxLen at hc1
  have HP := Lib.hid (fun u u' => Pair8.start w u u')
  have HK := Lib.hid hK
  have HX := Lib.hid hX
  have HE := Lib.hid hE
  clear hK hX hE
  go_enter Tryz.func21, Tryz.ntmps21
  go_upto_region 1 with fail
  have hp := HP.out (.slice (some ad) l.length ck) (.slice KA l.length kc)
  have hws : ((w.alloc (.cells #[.slice (some ad) l.length ck] 24)).alloc (.cells #[.slice KA l.length kc] 24)).heap.size = w.heap.size + 2 := by simp
  generalize (w.alloc (.cells #[.slice (some ad) l.length ck] 24)).alloc (.cells #[.slice KA l.length kc] 24) = wb at hp hws ⊢
  have HPB := Lib.hid hp
  have hbw := hp.below
  obtain ⟨c1, c2⟩ := hp.cells
  have hsp := (HK.out.keep (hbw.mono hB)).sp
  unfold spareTxt txt at hsp
  have hc : ∀ (d : Nat) (os : Array Obj), Calls Tryz.prog 20 #[.agg #[.slice (some ad) l.length ck], .agg #[.slice KA l.length kc]] (Sort.grow (redrawn wb d) os) fun e w'' => e = .returned (.bool true) ∧ ∃ p : Regrown, w'' = Sort.grow (redrawn wb p.d) p.os := fun d os => by
    have hb := below_regrown wb d os
    have hs := hb.size
    refine Calls.regrown_of ((rsame_p l l (some ad) KA ck kc _ B B (HX.out.below ((hbw.mono hB).trans (hb.mono (by omega)))) (HE.out.below ((hbw.mono hB).trans (hb.mono (by omega)))) (by omega) (by omega)).mono fun e w' ⟨h1, h2⟩ => ⟨by rw [h1, decide_eq_true rfl], h2⟩)
  have HC := Lib.hid hc
  have c1' := fun d os => cell_regrown c1 d os
  have c2' := fun d os => cell_regrown c2 d os
  have hsp' := fun d os => cell_regrown hsp d os
  have g1 : (l.length : Int) + 1 ≤ (ck : Int) := by omega
  have g2 : (l.length : Int) < (l.length : Int) + 1 := by omega
  have g3 : decide ((l.length : Int) + 1 ≤ (l.length : Int)) = false := by simp; omega
  have g4 : IntKind.i64.wrap ((l.length : Int) + 1) = (l.length : Int) + 1 := IntWalk.i64_in _ ⟨by omega, by omega⟩
  have g5 : (0 : Int) ≤ (l.length : Int) + 1 := by omega
  have g6 : ((l.length : Int) + 1).toNat = l.length + 1 := by omega
  clear hp hbw hc c1 c2 hsp
  refine wp_region_quiet_below mixed8 (by kernel_rfl) ?_
  repeat (quiet_step (with_reducible exact HC.out _ _))
  refine wpQuiet_nil ?_
  intro _ hw'
  obtain ⟨⟨dq, osq⟩, hw''⟩ := hw'
  subst hw''
  have HP5 := Lib.hid (HPB.out.later ((below_regrown wb dq osq).mono (by omega)))
  generalize Sort.grow (redrawn wb dq) osq = w5 at HP5 ⊢
  clear c1' c2' hsp' HC
  have hb5 := HP5.out.below
  obtain ⟨b1, b2⟩ := HP5.out.cells
  go_wp2_with fail
  go_loopw [31] (fun i wr => ∃ (j : Nat), j ≤ l.length ∧ i = .int .i64 j ∧ wr = w5) (fun i _ => l.length - (RowKit.intOf i).toNat)
  case atStart => exact ⟨0, Nat.zero_le _, rfl, rfl⟩
  case round =>
    obtain ⟨j, hj, rfl, rfl⟩ := hrel
    by_cases hlt : j < l.length
    · obtain ⟨ae, rfl, _, haeB, hel⟩ := HE.out.at_ (by omega)
      have hk := List.getElem?_eq_getElem hlt
      generalize l[j] = q at hk
      obtain ⟨_, A, c, hv, e0, e1⟩ := hel j q hk
      obtain ⟨av, cv, x1, x2, x3, x4, x5, x6, x7⟩ := (HK.out.keep (hb5.mono hB)).at_ j q hk
      obtain ⟨m0, m1⟩ := two_at (((hb5.mono hB).cell (p := ae.add (j * 2)) (by rw [RankLaw.add_block]; exact haeB)).trans e0) (((hb5.mono hB).cell (p := ae.add (j * 2 + 1)) (by rw [RankLaw.add_block]; exact haeB)).trans e1)
      obtain ⟨n0, n1⟩ := two_at x4 x5
      have hvn := hv.n1
      unfold maxLen at x3
      unfold spareTxt txt at x6 x7
      have q1 : (q.vs.length : Int) + 2 ≤ (cv : Int) := by omega
      have q2 : (q.vs.length : Int) < (q.vs.length : Int) + 2 := by omega
      have q3 : (q.vs.length : Int) + 1 < (q.vs.length : Int) + 2 := by omega
      have x8 := x7
      unfold Addr.add at x8
      rw [if_neg (by omega)] at x8
      clear hel e0 e1 hv hk x1 x4 x5
      go_wp2_with fail
      go_round
      case rel => exact ⟨j + 1, by omega, by go_num, trivial⟩
      case measure => simp [RowKit.intOf]; omega
    · have ej : j = l.length := by omega
      subst ej
      go_wp2_with fail
      go_ret
      exact ⟨rfl, hb5⟩
end Go.Proofs.YtiiadibbkijnhaaGreatDoor
