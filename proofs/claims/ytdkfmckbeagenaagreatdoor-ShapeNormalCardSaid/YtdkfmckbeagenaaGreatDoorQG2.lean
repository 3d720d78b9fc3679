/-
  rosterref16.sorted: sorting by halves.
  rosterref16.one: an And or Or of some filters, each once, rising; or the only one.
  rosterref16.Form: the normal form of a filter; of Not of it.
-/
import Derived.Test.YtdkfmckbeagenaaGreatDoorQG1
import Derived.Test.YtdkfmckbeagenaaGreatDoorQE5
set_option linter.unusedVariables false
set_option linter.unusedSimpArgs false
namespace Go.Proofs.YtdkfmckbeagenaaGreatDoor
open Go.RowKit Go.FltLaw Go.Lib Go.RankLaw

def Sorted1 (m n : Nat) (S : Nat → Prop) (l : List Flt) (N : Nat) (w : World) (e : Ending) (w' : World) : Prop :=
 ∃ A c, e = .returned (.slice A N c) ∧ LAtS (fun b => S b ∨ Itv w.heap.size w'.heap.size b) w' n (msort m l) A c ∧ Below w.heap.size w w'
structure Merging (w w1 wr : World) (S : Nat → Prop) (n : Nat) (M p q o : List Flt) (A : Option Addr) (ca : Nat) (B : Option Addr) (cb : Nat) (kv : Value) (us : List Value) : Prop where
 below : Below w1.heap.size w1 wr
 pl : LAtS (fun b => S b ∨ Itv w.heap.size w1.heap.size b) wr n p A ca
 ql : LAtS (fun b => S b ∨ Itv w.heap.size w1.heap.size b) wr n q B cb
 row : wr.ownsRow w1.heap.size 26 9 kv o.length us
 kids : KidsS (fun b => S b ∨ Itv w.heap.size w1.heap.size b) wr n o us
 sum : o ++ mrg p q = M
section
variable {w w1 wr w2 w4 : World} {S : Nat → Prop} {n ca cb : Nat} {M p q o : List Flt} {A B : Option Addr} {kv : Value} {us : List Value} {x : Flt} {ad : Addr}
theorem mrg_left {p q : List Flt} {x : Flt} (h : q = [] ∨ ∃ y q', q = y :: q' ∧ cmp x y ≠ .gt) : mrg (x :: p) q = x :: mrg p q := by
 rcases h with rfl | ⟨y, q', rfl, h⟩
 ·rw [mrg_nil, mrg_nil]
 ·rw [mrg, if_pos h]
theorem mrg_right {p q : List Flt} {y : Flt} (h : p = [] ∨ ∃ x p', p = x :: p' ∧ cmp x y = .gt) : mrg p (y :: q) = y :: mrg p q := by
 rcases h with rfl | ⟨x, p', rfl, h⟩
 ·rw [nil_mrg, nil_mrg]
 ·rw [mrg, if_neg (by simp [h])]
theorem Merging.lt (h : Merging w w1 wr S n M p q o A ca B cb kv us) (hS : ∀ b, S b → b < w.heap.size) (hw : w.heap.size ≤ w1.heap.size) : ∀ b, (S b ∨ Itv w.heap.size w1.heap.size b) → b < w1.heap.size := fun b hb => by
 rcases hb with hb | hb
 ·have := hS b hb; omega
 ·exact hb.2
theorem Merging.draw (h : Merging w w1 wr S n M p q o A ca B cb kv us) (hb : Below wr.heap.size wr w2) (hS : ∀ b, S b → b < w.heap.size) (hw : w.heap.size ≤ w1.heap.size) : Merging w w1 w2 S n M p q o A ca B cb kv us := by
 have hlt := h.lt hS hw
 have hs := h.below.size
 have hb' := hb.mono hs
 exact ⟨h.below.trans hb', h.pl.below hlt hb', h.ql.below hlt hb', own_later h.row hb, h.kids.keep fun q hq => hb'.cell (hlt _ hq), h.sum⟩
theorem Merging.stepA {g cap c' : Nat} {A' : Option Addr} {cs : Array Value} {t : TypeId} (h : Merging w w1 wr S n M (x :: p) q o A ca B cb kv us) (hS : ∀ b, S b → b < w.heap.size) (hw : w.heap.size ≤ w1.heap.size) (hx : FAtS (fun b => S b ∨ Itv w.heap.size w1.heap.size b) wr n x (.agg cs))
  (hA : LAtS (fun b => S b ∨ Itv w.heap.size w1.heap.size b) wr n p A' c') (hm : mrg (x :: p) q = x :: mrg p q) (hg : (wr.alloc (.cells cs t)).grownBy w4 kv.ownBlock) (ho : w4.ownsRow w1.heap.size 26 9 (.slice (some ⟨g, 0, none⟩) (o.length + 1) cap) (o.length + 1) (us ++ cs.toList)) :
  Merging w w1 w4 S n M p q (o ++ [x]) A' c' B cb (.slice (some ⟨g, 0, none⟩) (o.length + 1) cap) (us ++ cs.toList) := by
 have hlt := h.lt hS hw
 have hs := h.below.size
 have hb : Below w1.heap.size wr w4 := ((Below.refl _ _).alloc hs _).grown hg (by simp; omega) fun k e => (h.row.lt k e).1
 refine ⟨h.below.trans hb, hA.below hlt hb, h.ql.below hlt hb, by rw [List.length_append]; exact ho, ((h.kids.app h.row.1 (KidsS.one hx)).keep fun q hq => hb.cell (hlt _ hq)), ?_⟩
 rw [← h.sum, hm, List.append_assoc]
 rfl
theorem Merging.stepB {g cap c' : Nat} {A' : Option Addr} {cs : Array Value} {t : TypeId} (h : Merging w w1 wr S n M p (x :: q) o A ca B cb kv us) (hS : ∀ b, S b → b < w.heap.size) (hw : w.heap.size ≤ w1.heap.size) (hx : FAtS (fun b => S b ∨ Itv w.heap.size w1.heap.size b) wr n x (.agg cs))
  (hA : LAtS (fun b => S b ∨ Itv w.heap.size w1.heap.size b) wr n q A' c') (hm : mrg p (x :: q) = x :: mrg p q) (hg : (wr.alloc (.cells cs t)).grownBy w4 kv.ownBlock) (ho : w4.ownsRow w1.heap.size 26 9 (.slice (some ⟨g, 0, none⟩) (o.length + 1) cap) (o.length + 1) (us ++ cs.toList)) :
  Merging w w1 w4 S n M p q (o ++ [x]) A ca A' c' (.slice (some ⟨g, 0, none⟩) (o.length + 1) cap) (us ++ cs.toList) := by
 have hlt := h.lt hS hw
 have hs := h.below.size
 have hb : Below w1.heap.size wr w4 := ((Below.refl _ _).alloc hs _).grown hg (by simp; omega) fun k e => (h.row.lt k e).1
 refine ⟨h.below.trans hb, h.pl.below hlt hb, hA.below hlt hb, by rw [List.length_append]; exact ho, ((h.kids.app h.row.1 (KidsS.one hx)).keep fun q hq => hb.cell (hlt _ hq)), ?_⟩
 rw [← h.sum, hm, List.append_assoc]
 rfl
end
theorem latS_tail {S : Nat → Prop} {w : World} {n c : Nat} {x : Flt} {p : List Flt} {ad : Addr} (h : LAtS S w n (x :: p) (some ad) c) : LAtS S w n p (some (ad.add 9)) (c - 1) := by
 have := h.drop (k := 1) (by simp)
 simpa using this
theorem order_may' {f g : Flt} (hf : may f) (hg : may g) : order f g = cmp f g := by simp [order, hf, hg]
theorem num_le {o : Ordering} : num o ≤ 0 ↔ o ≠ .gt := by cases o <;> simp [num]
theorem infoF16 : (Tryz.prog.info? 26).map (fun i => (i.zero, i.size, i.bytes)) = some (some (.agg zeroF9), 9, 144) := by kernel_rfl
def lenOf : Value → Nat
 | .slice _ n _ => n
 | _ => 0
theorem ln_l {p q : List Flt} {x : Flt} {np nq : Nat} (h : (x :: p).length = np ∧ q.length = nq ∧ (∀ f ∈ x :: p, may f) ∧ (∀ f ∈ q, may f)) : p.length = np - 1 ∧ q.length = nq ∧ (∀ f ∈ p, may f) ∧ (∀ f ∈ q, may f) := by
 obtain ⟨h1, h2, h3, h4⟩ := h
 exact ⟨by simp at h1; omega, h2, fun f hf => h3 f (List.mem_cons_of_mem _ hf), h4⟩
theorem ln_r {p q : List Flt} {x : Flt} {np nq : Nat} (h : p.length = np ∧ (x :: q).length = nq ∧ (∀ f ∈ p, may f) ∧ (∀ f ∈ x :: q, may f)) : p.length = np ∧ q.length = nq - 1 ∧ (∀ f ∈ p, may f) ∧ (∀ f ∈ q, may f) := by
 obtain ⟨h1, h2, h3, h4⟩ := h
 exact ⟨h1, by simp at h2; omega, h3, fun f hf => h4 f (List.mem_cons_of_mem _ hf)⟩
theorem latS_some {S : Nat → Prop} {w : World} {n c : Nat} {x : Flt} {p : List Flt} {A : Option Addr} (h : LAtS S w n (x :: p) A c) : ∃ ad, A = Option.some ad := by
 obtain ⟨ad, e, _⟩ := h.2.2 (by simp)
 exact ⟨ad, e⟩
theorem Merging.start {w w1 w2 : World} {S : Nat → Prop} {n c1 c2 : Nat} {p q : List Flt} {A B : Option Addr} (h1 : LAtS (fun b => S b ∨ Itv w.heap.size w1.heap.size b) w1 n p A c1) (h2 : LAtS (fun b => S b ∨ Itv w1.heap.size w2.heap.size b) w2 n q B c2)
  (hS : ∀ b, S b → b < w.heap.size) (hw : w.heap.size ≤ w1.heap.size) (hb : Below w1.heap.size w1 w2) : Merging w w2 w2 S n (mrg p q) p q [] A c1 B c2 (.slice none 0 0) [] := by
 have hs := hb.size
 refine ⟨Below.refl _ _, (h1.below (fun b hb => ?_) hb).mono fun b hb => ?_, h2.mono fun b hb => ?_, World.ownsRow_nil _ _ _ _, KidsS.nil _ _ _ _, rfl⟩
 ·rcases hb with hb | hb
  ·have := hS b hb; omega
  ·exact hb.2
 ·rcases hb with hb | hb
  ·exact .inl hb
  ·exact .inr ⟨hb.1, by have := hb.2; omega⟩
 ·rcases hb with hb | hb
  ·exact .inl hb
  ·exact .inr ⟨by have := hb.1; omega, hb.2⟩
theorem Merging.fin {w w1 wr : World} {S : Nat → Prop} {n ca cb : Nat} {M o : List Flt} {A B : Option Addr} {kv : Value} {us : List Value} (h : Merging w w1 wr S n M [] [] o A ca B cb kv us) (hw : w.heap.size ≤ w1.heap.size) :
  ∃ A c, kv = .slice A M.length c ∧ LAtS (fun b => S b ∨ Itv w.heap.size wr.heap.size b) wr n M A c := by
 have e : o = M := by rw [← h.sum, nil_mrg, List.append_nil]
 subst e
 have hs := h.below.size
 refine LAtS.of_row (k := 0) h.row (h.kids.mono fun b hb => ?_) fun b hb => ?_
 ·rcases hb with hb | hb
  ·exact .inl hb
  ·exact .inr ⟨hb.1, by have := hb.2; omega⟩
 ·have := h.row.lt b hb
  exact .inr ⟨by omega, by omega⟩
set_option maxHeartbeats 3200000 in
set_option maxRecDepth 100000 in
theorem sorted_p (RC : RefCmp) : ∀ (m n : Nat) (l : List Flt) (N : Nat) (A : Option Addr) (c : Nat) (S : Nat → Prop) (w : World), l.length = N → LAtS S w n l A c → (∀ b, S b → b < w.heap.size) → (∀ f ∈ l, may f) → N ≤ m + 1 → N ≤ 65535 →
  Calls Tryz.prog 59 #[.slice A N c] w (Sorted1 m n S l N w) := by
 intro m
 induction m with
 | zero =>
  intro n l N A c S w hN hL hS hM hm hl
  have HR : Hid (LAtS (fun b => S b ∨ Itv w.heap.size w.heap.size b) w n (msort 0 l) A c) := Lib.hid (hL.mono fun b hb => .inl hb)
  clear hL hM hl hN
  go_enter Tryz.func59, Tryz.ntmps59
  go_wp2_with fail
  go_ret
  exact ⟨A, c, rfl, HR.out, Below.refl _ _⟩
 | succ m ih =>
  intro n l N A c S w hN hL hS hM hm hl
  by_cases h2 : N < 2
  ·have hms : msort (m + 1) l = l := by rw [msort, if_pos (by omega)]
   have HR : Hid (LAtS (fun b => S b ∨ Itv w.heap.size w.heap.size b) w n (msort (m + 1) l) A c) := Lib.hid (by rw [hms]; exact hL.mono fun b hb => .inl hb)
   clear hL hM hl hm hN hms
   go_enter Tryz.func59, Tryz.ntmps59
   go_wp2_with fail
   go_ret
   exact ⟨A, c, rfl, HR.out, Below.refl _ _⟩
  ·have hms : msort (m + 1) l = mrg (msort m (l.take (l.length / 2))) (msort m (l.drop (l.length / 2))) := by rw [msort, if_neg (by omega)]
   rw [hN] at hms
   have hc := hL.1
   have hc2 := hL.2.1
   rw [hN] at hc
   obtain ⟨ad, rfl, hadS, _⟩ := hL.2.2 (by omega)
   obtain ⟨k, hk⟩ : ∃ k, N / 2 = k := ⟨_, rfl⟩
   have hk1 : 0 < k := by omega
   have hk2 : k < N := by omega
   rw [hk] at hms
   have ht : (l.take k).length = k := by rw [List.length_take]; omega
   have hd : (l.drop k).length = N - k := by rw [List.length_drop]; omega
   have hq : (N : Int).tdiv 2 = (k : Int) := by rw [Int.tdiv_eq_ediv_of_nonneg (by omega)]; omega
   have H1 := Lib.hid (hL.take (k := k) (by omega))
   have H2 := Lib.hid (hL.drop (k := k) (by omega))
   have HM1 := Lib.hid (fun f (hf : f ∈ l.take k) => hM f (List.mem_of_mem_take hf))
   have HM2 := Lib.hid (fun f (hf : f ∈ l.drop k) => hM f (List.mem_of_mem_drop hf))
   have HSS := Lib.hid hS
   have I1 := Lib.hid (ih n (l.take k) k (some ad) c S)
   have I2 := Lib.hid (ih n (l.drop k) (N - k) (some (ad.add (k * 9))) (c - k) S)
   have HT := Lib.hid ht
   have HD := Lib.hid hd
   have HMS := Lib.hid hms
   have e1 : (msort m (l.take k)).length = k := by rw [msort_len, ht]
   have e2 : (msort m (l.drop k)).length = N - k := by rw [msort_len, hd]
   have m1 := fun f (hf : f ∈ msort m (l.take k)) => HM1.out f ((msort_mem m _ f).1 hf)
   have m2 := fun f (hf : f ∈ msort m (l.drop k)) => HM2.out f ((msort_mem m _ f).1 hf)
   obtain ⟨p0, hp0⟩ : ∃ p, msort m (l.take k) = p := ⟨_, rfl⟩
   obtain ⟨q0, hq0⟩ : ∃ q, msort m (l.drop k) = q := ⟨_, rfl⟩
   rw [hp0] at e1 m1
   rw [hq0] at e2 m2
   have HP0 := Lib.hid hp0
   have HQ0 := Lib.hid hq0
   have E1 := Lib.hid e1
   have E2 := Lib.hid e2
   have M1 := Lib.hid m1
   have M2 := Lib.hid m2
   have hML : (mrg p0 q0).length = N := by rw [mrg_len _ _ _ (Nat.le_refl _), e1, e2]; omega
   have HML := Lib.hid hML
   unfold maxLen at hc2
   obtain ⟨i0, hi, hz0, hz1, hz2⟩ := info_parts infoF16
   clear hL hM hS ih ht hd hms hN e1 e2 m1 m2 hp0 hq0 hML
   go_enter Tryz.func59, Tryz.ntmps59
   go_wp2_with (first
    | (go_at_call 59; (with_reducible refine (I1.out w HT.out H1.out HSS.out HM1.out (by omega) (by omega)).mono ?_); rintro e w1 ⟨A1, c1, rfl, hL1, hb1⟩; rw [HP0.out] at hL1; have HL1 := Lib.hid hL1; have HB1 := Lib.hid hb1; have hs1 := hb1.size; clear hL1 hb1)
    | (go_at_call 59; (with_reducible refine (I2.out w1 HD.out (H2.out.below HSS.out HB1.out) (fun b hb => by have := HSS.out b hb; omega) HM2.out (by omega) (by omega)).mono ?_); rintro e w2 ⟨A2, c2, rfl, hL2, hb2⟩; rw [HQ0.out] at hL2; have HMG := Lib.hid (Merging.start HL1.out hL2 HSS.out hs1 hb2); have HB2 := Lib.hid (HB1.out.trans (hb2.mono hs1)); have hs2 := hb2.size; clear hL2 hb2))
   go_loopw [3, 4, 5] (fun a b kv wr => ∃ (p q o : List Flt) (A : Option Addr) (ca : Nat) (B : Option Addr) (cb : Nat) (us : List Value) (np nq : Nat), a = .slice A np ca ∧ b = .slice B nq cb ∧ Hid (p.length = np ∧ q.length = nq ∧ (∀ f ∈ p, may f) ∧ (∀ f ∈ q, may f)) ∧ o.length + np + nq ≤ N ∧ Merging w w2 wr S n (mrg p0 q0) p q o A ca B cb kv us) (fun a b _ _ => lenOf a + lenOf b)
   case atStart => exact ⟨p0, q0, [], A1, c1, A2, c2, [], k, N - k, rfl, rfl, Lib.hid ⟨E1.out, E2.out, M1.out, M2.out⟩, by simp; omega, HMG.out⟩
   case round =>
    clear HMG HL1
    obtain ⟨p, q, o, A, ca, B, cb, us, np, nq, rfl, rfl, HLN, hon, hG⟩ := hrel
    obtain ⟨l1, l2, l3, l4⟩ := HLN.out
    have HG := Lib.hid hG
    have hsz := hG.below.size
    cases p with
    | nil =>
     simp only [List.length_nil] at l1
     subst l1
     cases q with
     | nil =>
      simp only [List.length_nil] at l2
      subst l2
      obtain ⟨A3, c3, rfl, hL3⟩ := hG.fin (by omega)
      have HL3 := Lib.hid hL3
      have hNN := HML.out
      clear hG hL3 l3 l4
      rw [hNN]
      go_wp2_with fail
      go_ret
      exact ⟨A3, c3, rfl, by rw [HMS.out, HP0.out, HQ0.out]; exact HL3.out, HB2.out.trans (HG.out.below.mono (by omega))⟩
     | cons y q =>
      have hnq0 : 0 < nq := by simp at l2; omega
      have hnq1 : ((nq : Int) == 0) = false := by simp; omega
      have hnq2 : decide ((0 : Int) < (nq : Int)) = true := by simp; omega
      have hnq3 : decide ((nq : Int) ≤ 0) = false := by simp; omega
      have hnq4 : decide (nq ≤ 0) = false := by simp; omega
      have hnq5 : (0 : Int) < (nq : Int) := by omega
      obtain ⟨ad2, rfl⟩ := latS_some hG.ql
      have HON := Lib.hid (show o.length + 0 + nq ≤ N ∧ N ≤ 65535 from ⟨hon, hl⟩)
      have HW2 : Hid (w.heap.size ≤ w2.heap.size) := Lib.hid (by omega)
      have HMR : Hid (mrg [] (y :: q) = y :: mrg [] q) := Lib.hid (mrg_right (.inl rfl))
      clear hG l3
      go_upto_region 7 with fail
      clear hon hsz l2 l4 hs1 hs2 hk1 hk2 hk hq h2 hm hl hadS hc hc2
      refine wp_region_quiet_below l106.mixed (by kernel_rfl) ?_
      refine quiet_start ?_
      intro L hL
      have HLL := Lib.hid hL
      clear hL
      repeat (refine quiet_at (drop_at HLL.out rfl rfl) ?_; intro K hK; go_simp; refine hK _ ?_; clear hK K)
      refine quiet_done HLL.out rfl ?_
      intro _ hw'
      obtain ⟨⟨dq, osq⟩, hw''⟩ := hw'
      subst hw''
      have HGX := Lib.hid (HG.out.draw (below_regrown wr dq osq) HSS.out HW2.out)
      clear HG HLL
      generalize Sort.grow (redrawn wr dq) osq = wx at HGX ⊢
      have hsx := HGX.out.below.size
      have hw2 := HW2.out
      have hon := HON.out
      obtain ⟨fv, hfv, hfs, hcells⟩ := HGX.out.ql.head
      obtain ⟨Kq, kcq, Mq, mcq, kq, ksq, q2, q3, q4, msq, q6, q7, xq, hye, rfl, _⟩ := FAtS.formF hfv
      obtain ⟨z0, z1, z2, z3, z4, z5, z6, z7, z8⟩ := nine_at0 (w := wx) hcells
      have hcl := HGX.out.ql.1
      have hcm := HGX.out.ql.2.1
      unfold maxLen at hcm
      have hcl' : nq ≤ cb := by have := HLN.out.2.1; simp at hcl this; omega
      have HTL := Lib.hid (latS_tail HGX.out.ql)
      have HFV := Lib.hid hfv
      clear hfv hcells hye hcl
      by_cases hc1 : cb = 1
      ·have hn1 : nq = 1 := by omega
       have he : q = [] := List.length_eq_zero_iff.1 (by have := HLN.out.2.1; simp at this; omega)
       subst he hn1 hc1
       go_wp2_with (at_builtin; refine wpList_append_lies _ rfl (.tmp 56) (.tmp 60) _ rfl w2.heap.size 26 i0 _ 9 144 Tryz.underlying23 hi hz0 hz1 hz2 rfl (by decide) u5 o.length us rfl (HGX.out.row.alloc _) ⟨wx.heap.size, 0, none⟩ 1 1 [.int .i8 kq, .slice Kq ksq.length kcq, .string ⟨q2.toArray⟩, .string ⟨q3.toArray⟩, .string ⟨q4.toArray⟩, .slice Mq msq.length mcq, .string ⟨q6.toArray⟩, .string ⟨q7.toArray⟩, .bool xq] rfl rfl (news_new wx #[.int .i8 kq, .slice Kq ksq.length kcq, .string ⟨q2.toArray⟩, .string ⟨q3.toArray⟩, .string ⟨q4.toArray⟩, .slice Mq msq.length mcq, .string ⟨q6.toArray⟩, .string ⟨q7.toArray⟩, .bool xq] _ rfl) (nine_one _ _ _ _ _ _ _ _ _ _ _ _ _) (by decide) (by unfold maxLen; omega) (by omega) (by simp; omega) _ rfl ?_; intro g cap w4 ho4 hg4 hat4 hlt4; have HO4 := Lib.hid ho4; have HG4 := Lib.hid hg4; clear ho4 hg4 hat4)
       go_round
       case rel => exact ⟨[], [], o ++ [y], A, ca, some ad2, 0, _, 0, 0, rfl, rfl, Lib.hid (ln_r HLN.out), by simp; omega, HGX.out.stepB HSS.out hw2 HFV.out (LAtS.none _ _ _ _ (by simp [maxLen])) HMR.out HG4.out HO4.out⟩
       case measure => simp [lenOf] <;> omega
      ·have hc2 : 1 < cb := by omega
       have hc3 : ¬ cb ≤ 1 := by omega
       go_wp2_with (at_builtin; refine wpList_append_lies _ rfl (.tmp 56) (.tmp 60) _ rfl w2.heap.size 26 i0 _ 9 144 Tryz.underlying23 hi hz0 hz1 hz2 rfl (by decide) u5 o.length us rfl (HGX.out.row.alloc _) ⟨wx.heap.size, 0, none⟩ 1 1 [.int .i8 kq, .slice Kq ksq.length kcq, .string ⟨q2.toArray⟩, .string ⟨q3.toArray⟩, .string ⟨q4.toArray⟩, .slice Mq msq.length mcq, .string ⟨q6.toArray⟩, .string ⟨q7.toArray⟩, .bool xq] rfl rfl (news_new wx #[.int .i8 kq, .slice Kq ksq.length kcq, .string ⟨q2.toArray⟩, .string ⟨q3.toArray⟩, .string ⟨q4.toArray⟩, .slice Mq msq.length mcq, .string ⟨q6.toArray⟩, .string ⟨q7.toArray⟩, .bool xq] _ rfl) (nine_one _ _ _ _ _ _ _ _ _ _ _ _ _) (by decide) (by unfold maxLen; omega) (by omega) (by simp; omega) _ rfl ?_; intro g cap w4 ho4 hg4 hat4 hlt4; have HO4 := Lib.hid ho4; have HG4 := Lib.hid hg4; clear ho4 hg4 hat4)
       go_round
       case rel => exact ⟨[], q, o ++ [y], A, ca, some (ad2.add 9), cb - 1, _, 0, nq - 1, rfl, rfl, Lib.hid (ln_r HLN.out), by simp; omega, HGX.out.stepB HSS.out hw2 HFV.out HTL.out HMR.out HG4.out HO4.out⟩
       case measure => simp [lenOf] <;> omega
    | cons x p =>
     have hnp0 : 0 < np := by simp at l1; omega
     have hnp1 : ((np : Int) == 0) = false := by simp; omega
     have hnp2 : decide ((0 : Int) < (np : Int)) = true := by simp; omega
     have hnp3 : decide ((np : Int) ≤ 0) = false := by simp; omega
     have hnp4 : decide (np ≤ 0) = false := by simp; omega
     have hnp5 : (0 : Int) < (np : Int) := by omega
     obtain ⟨ad1, rfl⟩ := latS_some hG.pl
     cases q with
     | nil =>
      simp only [List.length_nil] at l2
      subst l2
      have HON := Lib.hid (show o.length + np + 0 ≤ N ∧ N ≤ 65535 from ⟨hon, hl⟩)
      have HW2 : Hid (w.heap.size ≤ w2.heap.size) := Lib.hid (by omega)
      have HMR : Hid (mrg (x :: p) [] = x :: mrg p []) := Lib.hid (mrg_left (.inl rfl))
      clear hG
      go_upto_region 7 with fail
      clear hon hsz l1 l3 l4 hs1 hs2 hk1 hk2 hk hq h2 hm hl hadS hc hc2
      refine wp_region_quiet_below l106.mixed (by kernel_rfl) ?_
      refine quiet_start ?_
      intro L hL
      have HLL := Lib.hid hL
      clear hL
      repeat (refine quiet_at (drop_at HLL.out rfl rfl) ?_; intro K hK; go_simp; refine hK _ ?_; clear hK K)
      refine quiet_done HLL.out rfl ?_
      intro _ hw'
      obtain ⟨⟨dq, osq⟩, hw''⟩ := hw'
      subst hw''
      have HGX := Lib.hid (HG.out.draw (below_regrown wr dq osq) HSS.out HW2.out)
      clear HG HLL
      generalize Sort.grow (redrawn wr dq) osq = wx at HGX ⊢
      have hsx := HGX.out.below.size
      have hw2 := HW2.out
      have hon := HON.out
      obtain ⟨fv, hfv, hfs, hcells⟩ := HGX.out.pl.head
      obtain ⟨Kq, kcq, Mq, mcq, kq, ksq, q2, q3, q4, msq, q6, q7, xq, hye, rfl, _⟩ := FAtS.formF hfv
      obtain ⟨z0, z1, z2, z3, z4, z5, z6, z7, z8⟩ := nine_at0 (w := wx) hcells
      have hcl := HGX.out.pl.1
      have hcm := HGX.out.pl.2.1
      unfold maxLen at hcm
      have hcl' : np ≤ ca := by have := HLN.out.1; simp at hcl this; omega
      have HTL := Lib.hid (latS_tail HGX.out.pl)
      have HFV := Lib.hid hfv
      clear hfv hcells hye hcl
      by_cases hc1 : ca = 1
      ·have hn1 : np = 1 := by omega
       have he : p = [] := List.length_eq_zero_iff.1 (by have := HLN.out.1; simp at this; omega)
       subst he hn1 hc1
       go_wp2_with (at_builtin; refine wpList_append_lies _ rfl (.tmp 48) (.tmp 52) _ rfl w2.heap.size 26 i0 _ 9 144 Tryz.underlying23 hi hz0 hz1 hz2 rfl (by decide) u5 o.length us rfl (HGX.out.row.alloc _) ⟨wx.heap.size, 0, none⟩ 1 1 [.int .i8 kq, .slice Kq ksq.length kcq, .string ⟨q2.toArray⟩, .string ⟨q3.toArray⟩, .string ⟨q4.toArray⟩, .slice Mq msq.length mcq, .string ⟨q6.toArray⟩, .string ⟨q7.toArray⟩, .bool xq] rfl rfl (news_new wx #[.int .i8 kq, .slice Kq ksq.length kcq, .string ⟨q2.toArray⟩, .string ⟨q3.toArray⟩, .string ⟨q4.toArray⟩, .slice Mq msq.length mcq, .string ⟨q6.toArray⟩, .string ⟨q7.toArray⟩, .bool xq] _ rfl) (nine_one _ _ _ _ _ _ _ _ _ _ _ _ _) (by decide) (by unfold maxLen; omega) (by omega) (by simp; omega) _ rfl ?_; intro g cap w4 ho4 hg4 hat4 hlt4; have HO4 := Lib.hid ho4; have HG4 := Lib.hid hg4; clear ho4 hg4 hat4)
       go_round
       case rel => exact ⟨[], [], o ++ [x], some ad1, 0, B, cb, _, 0, 0, rfl, rfl, Lib.hid (ln_l HLN.out), by simp; omega, HGX.out.stepA HSS.out hw2 HFV.out (LAtS.none _ _ _ _ (by simp [maxLen])) HMR.out HG4.out HO4.out⟩
       case measure => simp [lenOf] <;> omega
      ·have hc2 : 1 < ca := by omega
       have hc3 : ¬ ca ≤ 1 := by omega
       go_wp2_with (at_builtin; refine wpList_append_lies _ rfl (.tmp 48) (.tmp 52) _ rfl w2.heap.size 26 i0 _ 9 144 Tryz.underlying23 hi hz0 hz1 hz2 rfl (by decide) u5 o.length us rfl (HGX.out.row.alloc _) ⟨wx.heap.size, 0, none⟩ 1 1 [.int .i8 kq, .slice Kq ksq.length kcq, .string ⟨q2.toArray⟩, .string ⟨q3.toArray⟩, .string ⟨q4.toArray⟩, .slice Mq msq.length mcq, .string ⟨q6.toArray⟩, .string ⟨q7.toArray⟩, .bool xq] rfl rfl (news_new wx #[.int .i8 kq, .slice Kq ksq.length kcq, .string ⟨q2.toArray⟩, .string ⟨q3.toArray⟩, .string ⟨q4.toArray⟩, .slice Mq msq.length mcq, .string ⟨q6.toArray⟩, .string ⟨q7.toArray⟩, .bool xq] _ rfl) (nine_one _ _ _ _ _ _ _ _ _ _ _ _ _) (by decide) (by unfold maxLen; omega) (by omega) (by simp; omega) _ rfl ?_; intro g cap w4 ho4 hg4 hat4 hlt4; have HO4 := Lib.hid ho4; have HG4 := Lib.hid hg4; clear ho4 hg4 hat4)
       go_round
       case rel => exact ⟨p, [], o ++ [x], some (ad1.add 9), ca - 1, B, cb, _, np - 1, 0, rfl, rfl, Lib.hid (ln_l HLN.out), by simp; omega, HGX.out.stepA HSS.out hw2 HFV.out HTL.out HMR.out HG4.out HO4.out⟩
       case measure => simp [lenOf] <;> omega
     | cons y q =>
      have hnq0 : 0 < nq := by simp at l2; omega
      have hnq1 : ((nq : Int) == 0) = false := by simp; omega
      have hnq2 : decide ((0 : Int) < (nq : Int)) = true := by simp; omega
      have hnq3 : decide ((nq : Int) ≤ 0) = false := by simp; omega
      have hnq4 : decide (nq ≤ 0) = false := by simp; omega
      have hnq5 : (0 : Int) < (nq : Int) := by omega
      obtain ⟨ad2, rfl⟩ := latS_some hG.ql
      have HON := Lib.hid (show o.length + np + nq ≤ N ∧ N ≤ 65535 from ⟨hon, hl⟩)
      have HW2 : Hid (w.heap.size ≤ w2.heap.size) := Lib.hid (by omega)
      have hmx := l3 x (by simp)
      have hmy := l4 y (by simp)
      obtain ⟨fx, hfx, _, hcx⟩ := hG.pl.head
      obtain ⟨fy, hfy, _, hcy⟩ := hG.ql.head
      have hTW : ∀ b, (S b ∨ Itv w.heap.size w2.heap.size b) → 0 ≤ b ∧ b < wr.heap.size := fun b hb => ⟨Nat.zero_le _, by have := hG.lt HSS.out HW2.out b hb; omega⟩
      have HFX := Lib.hid (FAtS.to hTW hfx)
      have HFY := Lib.hid (FAtS.to hTW hfy)
      obtain ⟨a0, a1, a2, a3, a4, a5, a6, a7, a8, rfl⟩ := (FAt.form HFX.out)
      obtain ⟨b0, b1, b2, b3, b4, b5, b6, b7, b8, rfl⟩ := (FAt.form HFY.out)
      obtain ⟨x0, x1, x2, x3, x4, x5, x6, x7, x8⟩ := nine_at0 (w := wr) hcx
      obtain ⟨y0, y1, y2, y3, y4, y5, y6, y7, y8⟩ := nine_at0 (w := wr) hcy
      have HRC := Lib.hid (fun (d : Nat) (os : Array Obj) => Calls.regrown_of (by have hb := below_regrown wr d os; have hs := hb.size; have h := RC n x y _ _ (Sort.grow (redrawn wr d) os) wr.heap.size wr.heap.size (HFX.out.below hb) (HFY.out.below hb) hs hs; rw [order_may' hmx hmy] at h; exact h))
      obtain ⟨z, hz⟩ : ∃ z, num (cmp x y) = z := ⟨_, rfl⟩
      rw [hz] at HRC
      have HC := HRC
      have x0' := fun d os => cell_regrown x0 d os
      have x1' := fun d os => cell_regrown x1 d os
      have x2' := fun d os => cell_regrown x2 d os
      have x3' := fun d os => cell_regrown x3 d os
      have x4' := fun d os => cell_regrown x4 d os
      have x5' := fun d os => cell_regrown x5 d os
      have x6' := fun d os => cell_regrown x6 d os
      have x7' := fun d os => cell_regrown x7 d os
      have x8' := fun d os => cell_regrown x8 d os
      have y0' := fun d os => cell_regrown y0 d os
      have y1' := fun d os => cell_regrown y1 d os
      have y2' := fun d os => cell_regrown y2 d os
      have y3' := fun d os => cell_regrown y3 d os
      have y4' := fun d os => cell_regrown y4 d os
      have y5' := fun d os => cell_regrown y5 d os
      have y6' := fun d os => cell_regrown y6 d os
      have y7' := fun d os => cell_regrown y7 d os
      have y8' := fun d os => cell_regrown y8 d os
      clear hG HRC hfx hfy hcx hcy hTW hmx hmy HFX HFY x0 x1 x2 x3 x4 x5 x6 x7 x8 y0 y1 y2 y3 y4 y5 y6 y7 y8
      go_upto_region 7 with fail
      clear hon hsz l1 l2 l3 l4 hs1 hs2 hk1 hk2 hk hq h2 hm hl hadS hc hc2
      by_cases hgt : cmp x y = .gt
      ·have hzz : decide (z ≤ 0) = false := by rw [← hz, hgt]; rfl
       have HMR : Hid (mrg (x :: p) (y :: q) = y :: mrg (x :: p) q) := Lib.hid (mrg_right (.inr ⟨x, p, rfl, hgt⟩))
       clear hgt hz
       refine wp_region_quiet_below l106.mixed (by kernel_rfl) ?_
       refine quiet_start ?_
       intro L hL
       have HLL := Lib.hid hL
       clear hL
       repeat (refine quiet_at (drop_at HLL.out rfl rfl) ?_; intro K hK; go_simp; first | (refine hK _ ?_; clear hK K) | (apply Exists.intro; refine ⟨fun _ => ?_, hK _ ?_⟩; (with_reducible exact HC.out _ _); clear hK K))
       refine quiet_done HLL.out rfl ?_
       intro _ hw'
       obtain ⟨⟨dq, osq⟩, hw''⟩ := hw'
       subst hw''
       have HGX := Lib.hid (HG.out.draw (below_regrown wr dq osq) HSS.out HW2.out)
       clear HC x0' x1' x2' x3' x4' x5' x6' x7' x8' y0' y1' y2' y3' y4' y5' y6' y7' y8'
       clear HG HLL
       generalize Sort.grow (redrawn wr dq) osq = wx at HGX ⊢
       have hsx := HGX.out.below.size
       have hw2 := HW2.out
       have hon := HON.out
       obtain ⟨fv, hfv, hfs, hcells⟩ := HGX.out.ql.head
       obtain ⟨Kq, kcq, Mq, mcq, kq, ksq, q2, q3, q4, msq, q6, q7, xq, hye, rfl, _⟩ := FAtS.formF hfv
       obtain ⟨z0, z1, z2, z3, z4, z5, z6, z7, z8⟩ := nine_at0 (w := wx) hcells
       have hcl := HGX.out.ql.1
       have hcm := HGX.out.ql.2.1
       unfold maxLen at hcm
       have hcl' : nq ≤ cb := by have := HLN.out.2.1; simp at hcl this; omega
       have HTL := Lib.hid (latS_tail HGX.out.ql)
       have HFV := Lib.hid hfv
       clear hfv hcells hye hcl
       by_cases hc1 : cb = 1
       ·have hn1 : nq = 1 := by omega
        have he : q = [] := List.length_eq_zero_iff.1 (by have := HLN.out.2.1; simp at this; omega)
        subst he hn1 hc1
        go_wp2_with (at_builtin; refine wpList_append_lies _ rfl (.tmp 56) (.tmp 60) _ rfl w2.heap.size 26 i0 _ 9 144 Tryz.underlying23 hi hz0 hz1 hz2 rfl (by decide) u5 o.length us rfl (HGX.out.row.alloc _) ⟨wx.heap.size, 0, none⟩ 1 1 [.int .i8 kq, .slice Kq ksq.length kcq, .string ⟨q2.toArray⟩, .string ⟨q3.toArray⟩, .string ⟨q4.toArray⟩, .slice Mq msq.length mcq, .string ⟨q6.toArray⟩, .string ⟨q7.toArray⟩, .bool xq] rfl rfl (news_new wx #[.int .i8 kq, .slice Kq ksq.length kcq, .string ⟨q2.toArray⟩, .string ⟨q3.toArray⟩, .string ⟨q4.toArray⟩, .slice Mq msq.length mcq, .string ⟨q6.toArray⟩, .string ⟨q7.toArray⟩, .bool xq] _ rfl) (nine_one _ _ _ _ _ _ _ _ _ _ _ _ _) (by decide) (by unfold maxLen; omega) (by omega) (by simp; omega) _ rfl ?_; intro g cap w4 ho4 hg4 hat4 hlt4; have HO4 := Lib.hid ho4; have HG4 := Lib.hid hg4; clear ho4 hg4 hat4)
        go_round
        case rel => exact ⟨x :: p, [], o ++ [y], some ad1, ca, some ad2, 0, _, np, 0, rfl, rfl, Lib.hid (ln_r HLN.out), by simp; omega, HGX.out.stepB HSS.out hw2 HFV.out (LAtS.none _ _ _ _ (by simp [maxLen])) HMR.out HG4.out HO4.out⟩
        case measure => simp [lenOf] <;> omega
       ·have hc2 : 1 < cb := by omega
        have hc3 : ¬ cb ≤ 1 := by omega
        go_wp2_with (at_builtin; refine wpList_append_lies _ rfl (.tmp 56) (.tmp 60) _ rfl w2.heap.size 26 i0 _ 9 144 Tryz.underlying23 hi hz0 hz1 hz2 rfl (by decide) u5 o.length us rfl (HGX.out.row.alloc _) ⟨wx.heap.size, 0, none⟩ 1 1 [.int .i8 kq, .slice Kq ksq.length kcq, .string ⟨q2.toArray⟩, .string ⟨q3.toArray⟩, .string ⟨q4.toArray⟩, .slice Mq msq.length mcq, .string ⟨q6.toArray⟩, .string ⟨q7.toArray⟩, .bool xq] rfl rfl (news_new wx #[.int .i8 kq, .slice Kq ksq.length kcq, .string ⟨q2.toArray⟩, .string ⟨q3.toArray⟩, .string ⟨q4.toArray⟩, .slice Mq msq.length mcq, .string ⟨q6.toArray⟩, .string ⟨q7.toArray⟩, .bool xq] _ rfl) (nine_one _ _ _ _ _ _ _ _ _ _ _ _ _) (by decide) (by unfold maxLen; omega) (by omega) (by simp; omega) _ rfl ?_; intro g cap w4 ho4 hg4 hat4 hlt4; have HO4 := Lib.hid ho4; have HG4 := Lib.hid hg4; clear ho4 hg4 hat4)
        go_round
        case rel => exact ⟨x :: p, q, o ++ [y], some ad1, ca, some (ad2.add 9), cb - 1, _, np, nq - 1, rfl, rfl, Lib.hid (ln_r HLN.out), by simp; omega, HGX.out.stepB HSS.out hw2 HFV.out HTL.out HMR.out HG4.out HO4.out⟩
        case measure => simp [lenOf] <;> omega
      ·have hzz : decide (z ≤ 0) = true := by rw [← hz]; simpa using num_le.2 hgt
       have HMR : Hid (mrg (x :: p) (y :: q) = x :: mrg p (y :: q)) := Lib.hid (mrg_left (.inr ⟨y, q, rfl, hgt⟩))
       clear hgt hz
       refine wp_region_quiet_below l106.mixed (by kernel_rfl) ?_
       refine quiet_start ?_
       intro L hL
       have HLL := Lib.hid hL
       clear hL
       repeat (refine quiet_at (drop_at HLL.out rfl rfl) ?_; intro K hK; go_simp; first | (refine hK _ ?_; clear hK K) | (apply Exists.intro; refine ⟨fun _ => ?_, hK _ ?_⟩; (with_reducible exact HC.out _ _); clear hK K))
       refine quiet_done HLL.out rfl ?_
       intro _ hw'
       obtain ⟨⟨dq, osq⟩, hw''⟩ := hw'
       subst hw''
       have HGX := Lib.hid (HG.out.draw (below_regrown wr dq osq) HSS.out HW2.out)
       clear HC x0' x1' x2' x3' x4' x5' x6' x7' x8' y0' y1' y2' y3' y4' y5' y6' y7' y8'
       clear HG HLL
       generalize Sort.grow (redrawn wr dq) osq = wx at HGX ⊢
       have hsx := HGX.out.below.size
       have hw2 := HW2.out
       have hon := HON.out
       obtain ⟨fv, hfv, hfs, hcells⟩ := HGX.out.pl.head
       obtain ⟨Kq, kcq, Mq, mcq, kq, ksq, q2, q3, q4, msq, q6, q7, xq, hye, rfl, _⟩ := FAtS.formF hfv
       obtain ⟨z0, z1, z2, z3, z4, z5, z6, z7, z8⟩ := nine_at0 (w := wx) hcells
       have hcl := HGX.out.pl.1
       have hcm := HGX.out.pl.2.1
       unfold maxLen at hcm
       have hcl' : np ≤ ca := by have := HLN.out.1; simp at hcl this; omega
       have HTL := Lib.hid (latS_tail HGX.out.pl)
       have HFV := Lib.hid hfv
       clear hfv hcells hye hcl
       by_cases hc1 : ca = 1
       ·have hn1 : np = 1 := by omega
        have he : p = [] := List.length_eq_zero_iff.1 (by have := HLN.out.1; simp at this; omega)
        subst he hn1 hc1
        go_wp2_with (at_builtin; refine wpList_append_lies _ rfl (.tmp 48) (.tmp 52) _ rfl w2.heap.size 26 i0 _ 9 144 Tryz.underlying23 hi hz0 hz1 hz2 rfl (by decide) u5 o.length us rfl (HGX.out.row.alloc _) ⟨wx.heap.size, 0, none⟩ 1 1 [.int .i8 kq, .slice Kq ksq.length kcq, .string ⟨q2.toArray⟩, .string ⟨q3.toArray⟩, .string ⟨q4.toArray⟩, .slice Mq msq.length mcq, .string ⟨q6.toArray⟩, .string ⟨q7.toArray⟩, .bool xq] rfl rfl (news_new wx #[.int .i8 kq, .slice Kq ksq.length kcq, .string ⟨q2.toArray⟩, .string ⟨q3.toArray⟩, .string ⟨q4.toArray⟩, .slice Mq msq.length mcq, .string ⟨q6.toArray⟩, .string ⟨q7.toArray⟩, .bool xq] _ rfl) (nine_one _ _ _ _ _ _ _ _ _ _ _ _ _) (by decide) (by unfold maxLen; omega) (by omega) (by simp; omega) _ rfl ?_; intro g cap w4 ho4 hg4 hat4 hlt4; have HO4 := Lib.hid ho4; have HG4 := Lib.hid hg4; clear ho4 hg4 hat4)
        go_round
        case rel => exact ⟨[], y :: q, o ++ [x], some ad1, 0, some ad2, cb, _, 0, nq, rfl, rfl, Lib.hid (ln_l HLN.out), by simp; omega, HGX.out.stepA HSS.out hw2 HFV.out (LAtS.none _ _ _ _ (by simp [maxLen])) HMR.out HG4.out HO4.out⟩
        case measure => simp [lenOf] <;> omega
       ·have hc2 : 1 < ca := by omega
        have hc3 : ¬ ca ≤ 1 := by omega
        go_wp2_with (at_builtin; refine wpList_append_lies _ rfl (.tmp 48) (.tmp 52) _ rfl w2.heap.size 26 i0 _ 9 144 Tryz.underlying23 hi hz0 hz1 hz2 rfl (by decide) u5 o.length us rfl (HGX.out.row.alloc _) ⟨wx.heap.size, 0, none⟩ 1 1 [.int .i8 kq, .slice Kq ksq.length kcq, .string ⟨q2.toArray⟩, .string ⟨q3.toArray⟩, .string ⟨q4.toArray⟩, .slice Mq msq.length mcq, .string ⟨q6.toArray⟩, .string ⟨q7.toArray⟩, .bool xq] rfl rfl (news_new wx #[.int .i8 kq, .slice Kq ksq.length kcq, .string ⟨q2.toArray⟩, .string ⟨q3.toArray⟩, .string ⟨q4.toArray⟩, .slice Mq msq.length mcq, .string ⟨q6.toArray⟩, .string ⟨q7.toArray⟩, .bool xq] _ rfl) (nine_one _ _ _ _ _ _ _ _ _ _ _ _ _) (by decide) (by unfold maxLen; omega) (by omega) (by simp; omega) _ rfl ?_; intro g cap w4 ho4 hg4 hat4 hlt4; have HO4 := Lib.hid ho4; have HG4 := Lib.hid hg4; clear ho4 hg4 hat4)
        go_round
        case rel => exact ⟨p, y :: q, o ++ [x], some (ad1.add 9), ca - 1, some ad2, cb, _, np - 1, nq, rfl, rfl, Lib.hid (ln_l HLN.out), by simp; omega, HGX.out.stepA HSS.out hw2 HFV.out HTL.out HMR.out HG4.out HO4.out⟩
        case measure => simp [lenOf] <;> omega
end Go.Proofs.YtdkfmckbeagenaaGreatDoor

namespace Go.FltLaw
theorem onceF_snoc (x y : Flt) : ∀ m : List Flt, onceF (m ++ [x, y]) = if cmp x y = .eq then onceF (m ++ [x]) else onceF (m ++ [x]) ++ [y]
 | [] => by
  show onceF [x, y] = if cmp x y = .eq then onceF [x] else onceF [x] ++ [y]
  by_cases h : cmp x y = .eq
  ·have e := cmp_eq x y h
   rw [if_pos h, e]
   rw [e] at h
   simp [onceF, h]
  ·simp [onceF, h]
 | [a] => by
  have ih := onceF_snoc x y []
  simp only [List.nil_append] at ih
  show onceF (a :: x :: [y]) = if cmp x y = .eq then onceF (a :: x :: []) else onceF (a :: x :: []) ++ [y]
  have e1 : onceF (a :: x :: [y]) = if cmp a x = .eq then onceF (x :: [y]) else a :: onceF (x :: [y]) := by rw [onceF]
  have e2 : onceF (a :: x :: []) = if cmp a x = .eq then onceF [x] else a :: onceF [x] := by simp only [onceF]
  rw [e1, e2, ih]
  by_cases h1 : cmp a x = .eq <;> by_cases h2 : cmp x y = .eq <;> simp [h1, h2]
 | a :: b :: m => by
  have ih := onceF_snoc x y (b :: m)
  show onceF (a :: b :: (m ++ [x, y])) = if cmp x y = .eq then onceF (a :: b :: (m ++ [x])) else onceF (a :: b :: (m ++ [x])) ++ [y]
  have e1 : ∀ r : List Flt, onceF (a :: b :: r) = if cmp a b = .eq then onceF (b :: r) else a :: onceF (b :: r) := fun r => by rw [onceF]
  rw [e1, e1]
  have ih' : onceF (b :: (m ++ [x, y])) = if cmp x y = .eq then onceF (b :: (m ++ [x])) else onceF (b :: (m ++ [x])) ++ [y] := ih
  rw [ih']
  by_cases h1 : cmp a b = .eq <;> by_cases h2 : cmp x y = .eq <;> simp [h1, h2]
theorem take_two {s : List Flt} {j : Nat} {x y : Flt} (hx : s[j]? = some x) (hy : s[j + 1]? = some y) : s.take (j + 1 + 1) = s.take j ++ [x, y] ∧ s.take (j + 1) = s.take j ++ [x] := by
 have h1 : s.take (j + 1) = s.take j ++ [x] := by rw [List.take_add_one, hx]; rfl
 have h2 : s.take (j + 1 + 1) = s.take (j + 1) ++ [y] := by rw [List.take_add_one, hy]; rfl
 exact ⟨by rw [h2, h1, List.append_assoc]; rfl, h1⟩
theorem once_skip {s : List Flt} {j : Nat} {x y : Flt} (hx : s[j]? = some x) (hy : s[j + 1]? = some y) (h : cmp x y = .eq) : onceF (s.take (j + 1 + 1)) = onceF (s.take (j + 1)) := by
 obtain ⟨e1, e2⟩ := take_two hx hy
 rw [e1, e2, onceF_snoc, if_pos h]
theorem once_add {s : List Flt} {j : Nat} {x y : Flt} (hx : s[j]? = some x) (hy : s[j + 1]? = some y) (h : cmp x y ≠ .eq) : onceF (s.take (j + 1 + 1)) = onceF (s.take (j + 1)) ++ [y] := by
 obtain ⟨e1, e2⟩ := take_two hx hy
 rw [e1, e2, onceF_snoc, if_neg h]
theorem once_first {s : List Flt} {x : Flt} (hx : s[0]? = some x) : onceF (s.take (0 + 1)) = onceF (s.take 0) ++ [x] := by
 cases s with
 | nil => simp at hx
 | cons y s =>
  simp only [List.getElem?_cons_zero, Option.some.injEq] at hx
  subst hx
  simp [onceF]
end Go.FltLaw
namespace Go.Proofs.YtdkfmckbeagenaaGreatDoor
open Go.RowKit Go.FltLaw Go.Lib Go.RankLaw

def One1 (n : Nat) (S : Nat → Prop) (g : Flt) (w : World) (e : Ending) (w' : World) : Prop := ∃ v, e = .returned v ∧ FAtS (fun b => S b ∨ Itv w.heap.size w'.heap.size b) w' n g v ∧ Below w.heap.size w w'
structure Oncing (w w1 wr : World) (S : Nat → Prop) (n : Nat) (s : List Flt) (A : Option Addr) (c : Nat) (o : List Flt) (kv : Value) (us : List Value) : Prop where
 below : Below w1.heap.size w1 wr
 sl : LAtS (fun b => S b ∨ Itv (w.heap.size + 1) w1.heap.size b) wr n s A c
 row : wr.ownsRow w1.heap.size 26 9 kv o.length us
 kids : KidsS (fun b => S b ∨ Itv (w.heap.size + 1) w1.heap.size b) wr n o us
section
variable {w w1 wr w2 w4 : World} {S : Nat → Prop} {n c : Nat} {s o : List Flt} {A : Option Addr} {kv : Value} {us : List Value} {x : Flt}
theorem Oncing.lt (_ : Oncing w w1 wr S n s A c o kv us) (hS : ∀ b, S b → b < w.heap.size) (hw : w.heap.size ≤ w1.heap.size) : ∀ b, (S b ∨ Itv (w.heap.size + 1) w1.heap.size b) → b < w1.heap.size := fun b hb => by
 rcases hb with hb | hb
 ·have := hS b hb; omega
 ·exact hb.2
theorem Oncing.draw (h : Oncing w w1 wr S n s A c o kv us) (hb : Below wr.heap.size wr w2) (hS : ∀ b, S b → b < w.heap.size) (hw : w.heap.size ≤ w1.heap.size) : Oncing w w1 w2 S n s A c o kv us := by
 have hlt := h.lt hS hw
 have hb' := hb.mono h.below.size
 exact ⟨h.below.trans hb', h.sl.below hlt hb', own_later h.row hb, h.kids.keep fun q hq => hb'.cell (hlt _ hq)⟩
theorem Oncing.step {g cap : Nat} {cs : Array Value} {t : TypeId} (h : Oncing w w1 wr S n s A c o kv us) (hS : ∀ b, S b → b < w.heap.size) (hw : w.heap.size ≤ w1.heap.size) (hx : FAtS (fun b => S b ∨ Itv (w.heap.size + 1) w1.heap.size b) wr n x (.agg cs))
  (hg : (wr.alloc (.cells cs t)).grownBy w4 kv.ownBlock) (ho : w4.ownsRow w1.heap.size 26 9 (.slice (some ⟨g, 0, none⟩) (o.length + 1) cap) (o.length + 1) (us ++ cs.toList)) :
  Oncing w w1 w4 S n s A c (o ++ [x]) (.slice (some ⟨g, 0, none⟩) (o.length + 1) cap) (us ++ cs.toList) := by
 have hlt := h.lt hS hw
 have hs := h.below.size
 have hb : Below w1.heap.size wr w4 := ((Below.refl _ _).alloc hs _).grown hg (by simp; omega) fun k e => (h.row.lt k e).1
 exact ⟨h.below.trans hb, h.sl.below hlt hb, by rw [List.length_append]; exact ho, (h.kids.app h.row.1 (KidsS.one hx)).keep fun q hq => hb.cell (hlt _ hq)⟩
theorem latS_at {S : Nat → Prop} {w : World} {n c i : Nat} {l : List Flt} {f : Flt} {ad : Addr} (h : LAtS S w n l (some ad) c) (hi : l[i]? = some f) : ∃ v, FAtS S w n f v ∧ ∀ j u, v.cells[j]? = some u → w.cell? (ad.add (i * 9 + j)) = some u := by
 obtain ⟨ad', e, h1, h2⟩ := h.2.2 (by have := (List.getElem?_eq_some_iff.1 hi).1; omega)
 simp only [Option.some.injEq] at e
 subst e
 exact h2 i f hi
end
theorem canon_pos {l : List Flt} (h : 0 < l.length) : 0 < (canon l).length := List.length_pos_iff.2 (canon_len (List.length_pos_iff.1 h))
theorem oncing_cell {w w1 wr : World} {S : Nat → Prop} {cs : Array Value} (hS : ∀ b, S b → b < w.heap.size) : ∀ p : Addr, (S p.block ∨ Itv (w.heap.size + 1) w1.heap.size p.block) → (wr.setRow w.heap.size cs).cell? p = wr.cell? p := fun p hp =>
 World.cell?_of_block (setRow_other _ _ _ _ (by rcases hp with hp | hp; have := hS _ hp; omega; have := hp.1; omega))
theorem one_single {w w1 wr : World} {S : Nat → Prop} {n c g cap : Nat} {k : Int} {s l : List Flt} {x : Flt} {A : Option Addr} {us : List Value} (h : Oncing w w1 wr S n s A c [x] (.slice (some ⟨g, 0, none⟩) 1 cap) us) (hS : ∀ b, S b → b < w.heap.size) (hc : canon l = [x]) :
  ∃ v, (∀ j u, v.cells[j]? = some u → wr.cell? ((⟨g, 0, none⟩ : Addr).add j) = some u) ∧ (∃ (KA : Option Addr) (kc : Nat) (MA : Option Addr) (mc : Nat) (k : Int) (ks : List Flt) (ds vl st : List UInt8) (ms : List (List UInt8)) (fn rl : List UInt8) (dn : Bool), v = .agg #[.int .i8 k, .slice KA ks.length kc, .string ⟨ds.toArray⟩, .string ⟨vl.toArray⟩, .string ⟨st.toArray⟩, .slice MA ms.length mc, .string ⟨fn.toArray⟩, .string ⟨rl.toArray⟩, .bool dn]) ∧
   ∀ cs, FAtS (fun b => S b ∨ Itv w.heap.size (wr.setRow w.heap.size cs).heap.size b) (wr.setRow w.heap.size cs) (n + 1) (oneF k l) v := by
 obtain ⟨v, hv, hcell⟩ := h.kids 0 x rfl
 obtain ⟨KA, kc, MA, mc, k', ks, ds, vl, st, ms, fn, rl, dn, hx, hv2, _⟩ := FAtS.formF hv
 refine ⟨v, fun j u hu => ?_, ⟨KA, kc, MA, mc, k', ks, ds, vl, st, ms, fn, rl, dn, hv2⟩, fun cs => ?_⟩
 ·have e : (⟨g, 0, none⟩ : Addr).add j = ⟨g, j, none⟩ := by unfold Addr.add; split <;> simp_all
  rw [e]
  exact row_cell h.row (by have := hcell j u hu; rwa [Nat.zero_mul, Nat.zero_add] at this)
 ·have e : oneF k l = x := by unfold oneF; rw [hc]
  rw [e]
  have hs := h.below.size
  refine FAtS.up (Nat.le_succ n) ((hv.keep (oncing_cell (w1 := w1) hS)).mono fun b hb => hb.imp id fun hb => ⟨by have := hb.1; omega, by have := hb.2; simp; omega⟩)
theorem one_many {w w1 wr : World} {S : Nat → Prop} {n c g cap N : Nat} {k : Int} {s l o : List Flt} {A : Option Addr} {us : List Value} (h : Oncing w w1 wr S n s A c o (.slice (some ⟨g, 0, none⟩) o.length cap) us) (hS : ∀ b, S b → b < w.heap.size) (hw : w.heap.size + 1 ≤ w1.heap.size) (hc : o = canon l) (h2 : 2 ≤ o.length) (hN : o.length ≤ 65535) (hk : k = 0 ∨ k = 1) (_ : N = N) :
  ∀ cs, FAtS (fun b => S b ∨ Itv w.heap.size (wr.setRow w.heap.size cs).heap.size b) (wr.setRow w.heap.size cs) (n + 1) (oneF k l) (.agg #[.int .i8 k, .slice (some ⟨g, 0, none⟩) o.length cap, .string ⟨#[]⟩, .string ⟨#[]⟩, .string ⟨#[]⟩, .slice none 0 0, .string ⟨#[]⟩, .string ⟨#[]⟩, .bool false]) := by
 intro cs
 have e : oneF k l = juncF k o := by
  unfold oneF
  rw [hc] at h2 ⊢
  match hm : canon l, h2 with
  | x :: y :: m, _ => rfl
 rw [e]
 obtain ⟨r1, r2, r3, r4⟩ := row_form h.row
 have hs := h.below.size
 refine ⟨some ⟨g, 0, none⟩, cap, none, 0, rfl, ⟨by rcases hk with hk | hk <;> omega, by rcases hk with hk | hk <;> omega, r3, r4, by omega, by simp, by simp, by simp, by simp, by unfold maxLen; omega, by simp, by simp, by simp, by simp⟩, fun h => by simp at h, fun _ => ⟨_, rfl, .inr ⟨by show w.heap.size ≤ g; omega, by show g < _; simp; omega⟩, fun i f hi => ?_⟩⟩
 obtain ⟨v, hv, hcell⟩ := h.kids i f hi
 refine ⟨v, (hv.keep (oncing_cell (w1 := w1) hS)).mono fun b hb => hb.imp id fun hb => ⟨by have := hb.1; omega, by have := hb.2; simp; omega⟩, fun j u hu => ?_⟩
 have e : (⟨g, 0, none⟩ : Addr).add (i * 9 + j) = ⟨g, i * 9 + j, none⟩ := by unfold Addr.add; split <;> simp_all
 rw [e, World.cell?_of_block (setRow_other _ _ _ _ (by show g ≠ w.heap.size; omega))]
 exact row_cell h.row (hcell j u hu)
set_option maxHeartbeats 3200000 in
set_option maxRecDepth 100000 in
theorem one_p (RC : RefCmp) (n : Nat) (k : Int) (l : List Flt) (N : Nat) (A : Option Addr) (c : Nat) (S : Nat → Prop) (w : World) (hN : l.length = N) (hL : LAtS S w n l A c) (hS : ∀ b, S b → b < w.heap.size) (hM : ∀ f ∈ l, may f) (h0 : 0 < N) (hl : N ≤ 65535) (hk : k = 0 ∨ k = 1) :
  Calls Tryz.prog 39 #[.int .i8 k, .slice A N c] w (One1 (n + 1) S (oneF k l) w) := by
 obtain ⟨s, hs⟩ : ∃ s, msort N l = s := ⟨_, rfl⟩
 have hsl : s.length = N := by rw [← hs, msort_len, hN]
 have hsm : ∀ f ∈ s, may f := fun f hf => hM f ((msort_mem N l f).1 (by rw [hs]; exact hf))
 have hcn : onceF s = canon l := by rw [← hs]; exact onceF_canon N l (by omega)
 have HA0 := Lib.hid (fun o : Obj => hL.below (w' := w.alloc o) hS ((Below.refl _ _).alloc (Nat.le_refl _) o))
 have HS := Lib.hid hs
 have HSL := Lib.hid hsl
 have HSM := Lib.hid hsm
 have HCN := Lib.hid hcn
 have HSS := Lib.hid hS
 have HM := Lib.hid hM
 have HN := Lib.hid hN
 have HKK := Lib.hid hk
 have HZ := Lib.hid (heap_alloc_new w (.cells zeroF9 26))
 have hl2 : 0 < l.length := by omega
 obtain ⟨i0, hi, hz0, hz1, hz2⟩ := info_parts infoF16
 clear hL hM hS hs hsl hsm hcn hN hl2 hk
 go_enter Tryz.func39, Tryz.ntmps39
 go_wp2_with (go_at_call 59; (with_reducible refine (sorted_p RC N n l N A c S (w.alloc (.cells zeroF9 26)) HN.out (HA0.out _) (fun b hb => by have := HSS.out b hb; simp; omega) HM.out (by omega) hl).mono ?_); rintro e w1 ⟨A1, c1, rfl, hL1, hb1⟩; rw [HS.out] at hL1; have hs1 : w.heap.size + 1 ≤ w1.heap.size := (by have := hb1.size; simpa using this); have HL1 := Lib.hid (hL1.mono (T := fun b => S b ∨ Itv (w.heap.size + 1) w1.heap.size b) (fun b hb => hb.imp id (fun hb => ⟨by have := hb.1; simp at this; omega, hb.2⟩))); have HB1 := Lib.hid (((Below.refl w.heap.size w).alloc (Nat.le_refl _) (.cells zeroF9 26)).trans (hb1.mono (by simp))); have HZ1 := Lib.hid ((hb1.block w.heap.size (by simp)).trans HZ.out); clear hL1 hb1)
 obtain ⟨ad1, hA1⟩ : ∃ ad, A1 = some ad := by
  obtain ⟨ad, e, _⟩ := HL1.out.2.2 (by rw [HSL.out]; exact h0)
  exact ⟨ad, e⟩
 subst hA1
 go_loopw [5, 6] (fun kv i wr => ∃ (j : Nat) (o : List Flt) (us : List Value), j ≤ N ∧ i = .int .i64 j ∧ Hid (o = onceF (s.take j)) ∧ o.length ≤ j ∧ Oncing w w1 wr S n s (some ad1) c1 o kv us) (fun _ i _ => N - (RowKit.intOf i).toNat)
 case atStart => exact ⟨0, [], [], Nat.zero_le _, rfl, Lib.hid rfl, Nat.le_refl _, ⟨Below.refl _ _, HL1.out, World.ownsRow_nil _ _ _ _, KidsS.nil _ _ _ _⟩⟩
 case round =>
  obtain ⟨j, o, us, hj, rfl, HO, hoj, hG⟩ := hrel
  have HG := Lib.hid hG
  have hsz := hG.below.size
  clear HL1
  by_cases hlt : j < N
  ·have hsj : ∃ y, s[j]? = some y := ⟨_, List.getElem?_eq_getElem (by rw [HSL.out]; exact hlt)⟩
   obtain ⟨y, hy⟩ := hsj
   have HY := Lib.hid hy
   have HMY := Lib.hid (HSM.out y (List.mem_of_getElem? hy))
   have t1 : decide ((N : Int) ≤ (j : Int)) = false := by simp; omega
   have t2 : decide (N ≤ j) = false := by simp; omega
   have HJ := Lib.hid (show j < N ∧ N ≤ 65535 ∧ o.length ≤ j ∧ w.heap.size + 1 ≤ w1.heap.size ∧ w1.heap.size ≤ wr.heap.size from ⟨hlt, hl, hoj, hs1, hsz⟩)
   clear hG hy
   by_cases hj0 : j = 0
   ·subst hj0
    have HST : Hid (onceF (s.take (0 + 1)) = o ++ [y]) := Lib.hid (by rw [HO.out]; exact once_first HY.out)
    go_upto_region 6 with fail
    clear hsz hoj hj hl hs1 h0
    refine wp_region_quiet_below l106.mixed (by kernel_rfl) ?_
    refine quiet_start ?_
    intro L hL
    have HLL := Lib.hid hL
    clear hL
    repeat (refine quiet_at (drop_at HLL.out rfl rfl) ?_; intro K hK; go_simp; refine hK _ ?_; clear hK K)
    refine quiet_done HLL.out rfl ?_
    intro _ hw'
    obtain ⟨⟨dq, osq⟩, hw''⟩ := hw'
    subst hw''
    have HGX := Lib.hid (HG.out.draw (below_regrown wr dq osq) HSS.out (by have := HJ.out; omega))
    clear HG HLL
    generalize Sort.grow (redrawn wr dq) osq = wx at HGX ⊢
    have hsx := HGX.out.below.size
    have hjj := HJ.out
    obtain ⟨fv, hfv, hcells⟩ := latS_at HGX.out.sl HY.out
    obtain ⟨Kq, kcq, Mq, mcq, kq, ksq, q2, q3, q4, msq, q6, q7, xq, hye, rfl, _⟩ := FAtS.formF hfv
    obtain ⟨z0, z1, z2, z3, z4, z5, z6, z7, z8⟩ := nine_at0 (w := wx) (fun q u hu => by have := hcells q u hu; rwa [Nat.zero_mul, Nat.zero_add] at this)
    have HFV := Lib.hid hfv
    clear hfv hcells hye
    go_wp2_with (at_builtin; refine wpList_append_lies _ rfl (.tmp 30) (.tmp 35) _ rfl w1.heap.size 26 i0 _ 9 144 Tryz.underlying23 hi hz0 hz1 hz2 rfl (by decide) u5 o.length us rfl (HGX.out.row.alloc _) ⟨wx.heap.size, 0, none⟩ 1 1 [.int .i8 kq, .slice Kq ksq.length kcq, .string ⟨q2.toArray⟩, .string ⟨q3.toArray⟩, .string ⟨q4.toArray⟩, .slice Mq msq.length mcq, .string ⟨q6.toArray⟩, .string ⟨q7.toArray⟩, .bool xq] rfl rfl (news_new wx #[.int .i8 kq, .slice Kq ksq.length kcq, .string ⟨q2.toArray⟩, .string ⟨q3.toArray⟩, .string ⟨q4.toArray⟩, .slice Mq msq.length mcq, .string ⟨q6.toArray⟩, .string ⟨q7.toArray⟩, .bool xq] _ rfl) (nine_one _ _ _ _ _ _ _ _ _ _ _ _ _) (by decide) (by unfold maxLen; omega) (by omega) (by simp; omega) _ rfl ?_; intro g cap w4 ho4 hg4 hat4 hlt4; have HO4 := Lib.hid ho4; have HG4 := Lib.hid hg4; clear ho4 hg4 hat4)
    go_round
    case rel => exact ⟨0 + 1, o ++ [y], _, by omega, by go_num, Lib.hid HST.out.symm, by rw [List.length_append]; show o.length + 1 ≤ _; omega, HGX.out.step HSS.out (by omega) HFV.out HG4.out HO4.out⟩
    case measure => simp [RowKit.intOf] <;> omega
   ·obtain ⟨i, hi1⟩ : ∃ i, j = i + 1 := ⟨j - 1, by omega⟩
    have hsi : ∃ x, s[i]? = some x := ⟨_, List.getElem?_eq_getElem (by rw [HSL.out]; omega)⟩
    obtain ⟨x, hx⟩ := hsi
    have HX := Lib.hid hx
    have HMX := Lib.hid (HSM.out x (List.mem_of_getElem? hx))
    have HI := Lib.hid hi1
    have t3 : IntKind.i64.wrap ((j : Int) - 1) = (i : Int) := by rw [IntWalk.i64_in _ (by omega)]; omega
    have t4 : decide ((N : Int) ≤ (i : Int)) = false := by simp; omega
    have t5 : decide (N ≤ i) = false := by simp; omega
    have t6 : ((j : Int) == 0) = false := by simp; omega
    have t7 : i < N := by omega
    obtain ⟨fx, hfx, hcx⟩ := latS_at HG.out.sl HX.out
    obtain ⟨fy, hfy, hcy⟩ := latS_at HG.out.sl HY.out
    have hTW : ∀ b, (S b ∨ Itv (w.heap.size + 1) w1.heap.size b) → 0 ≤ b ∧ b < wr.heap.size := fun b hb => ⟨Nat.zero_le _, by have h1 := HJ.out; have := HG.out.lt HSS.out (by omega) b hb; omega⟩
    have HFX := Lib.hid (FAtS.to hTW hfx)
    have HFY := Lib.hid (FAtS.to hTW hfy)
    obtain ⟨a0, a1, a2, a3, a4, a5, a6, a7, a8, rfl⟩ := (FAt.form HFX.out)
    obtain ⟨b0, b1, b2, b3, b4, b5, b6, b7, b8, rfl⟩ := (FAt.form HFY.out)
    obtain ⟨x0, x1, x2, x3, x4, x5, x6, x7, x8⟩ := nine_at (w := wr) (m := i * 9) hcx
    obtain ⟨y0, y1, y2, y3, y4, y5, y6, y7, y8⟩ := nine_at (w := wr) (m := j * 9) hcy
    have HRC := Lib.hid (fun (d : Nat) (os : Array Obj) => Calls.regrown_of (by have hb := below_regrown wr d os; have hs := hb.size; have h := RC n x y _ _ (Sort.grow (redrawn wr d) os) wr.heap.size wr.heap.size (HFX.out.below hb) (HFY.out.below hb) hs hs; rw [order_may' HMX.out HMY.out] at h; exact h))
    obtain ⟨z, hz⟩ : ∃ z, num (cmp x y) = z := ⟨_, rfl⟩
    rw [hz] at HRC
    have HC := HRC
    have x0' := fun d os => cell_regrown x0 d os
    have x1' := fun d os => cell_regrown x1 d os
    have x2' := fun d os => cell_regrown x2 d os
    have x3' := fun d os => cell_regrown x3 d os
    have x4' := fun d os => cell_regrown x4 d os
    have x5' := fun d os => cell_regrown x5 d os
    have x6' := fun d os => cell_regrown x6 d os
    have x7' := fun d os => cell_regrown x7 d os
    have x8' := fun d os => cell_regrown x8 d os
    have y0' := fun d os => cell_regrown y0 d os
    have y1' := fun d os => cell_regrown y1 d os
    have y2' := fun d os => cell_regrown y2 d os
    have y3' := fun d os => cell_regrown y3 d os
    have y4' := fun d os => cell_regrown y4 d os
    have y5' := fun d os => cell_regrown y5 d os
    have y6' := fun d os => cell_regrown y6 d os
    have y7' := fun d os => cell_regrown y7 d os
    have y8' := fun d os => cell_regrown y8 d os
    clear HRC hfx hfy hcx hcy hTW HFX HFY x0 x1 x2 x3 x4 x5 x6 x7 x8 y0 y1 y2 y3 y4 y5 y6 y7 y8
    go_upto_region 6 with fail
    clear hsz hoj hj hl hs1 h0 hi1 hx
    by_cases hq : cmp x y = .eq
    ·have hzz : (z != 0) = false := by rw [← hz, hq]; rfl
     have HST : Hid (onceF (s.take (j + 1)) = o) := Lib.hid (by rw [HO.out, HI.out]; exact once_skip HX.out (HI.out ▸ HY.out) hq)
     clear hq hz
     refine wp_region_quiet_below l106.mixed (by kernel_rfl) ?_
     refine quiet_start ?_
     intro L hL
     have HLL := Lib.hid hL
     clear hL
     repeat (refine quiet_at (drop_at HLL.out rfl rfl) ?_; intro K hK; go_simp; first | (refine hK _ ?_; clear hK K) | (apply Exists.intro; refine ⟨fun _ => ?_, hK _ ?_⟩; (with_reducible exact HC.out _ _); clear hK K))
     refine quiet_done HLL.out rfl ?_
     intro _ hw'
     obtain ⟨⟨dq, osq⟩, hw''⟩ := hw'
     subst hw''
     have HGX := Lib.hid (HG.out.draw (below_regrown wr dq osq) HSS.out (by have := HJ.out; omega))
     clear HC x0' x1' x2' x3' x4' x5' x6' x7' x8' y0' y1' y2' y3' y4' y5' y6' y7' y8'
     clear HG HLL
     generalize Sort.grow (redrawn wr dq) osq = wx at HGX ⊢
     have hsx := HGX.out.below.size
     have hjj := HJ.out
     go_wp2_with fail
     go_round
     case rel => exact ⟨j + 1, o, us, by omega, by go_num, Lib.hid HST.out.symm, by omega, HGX.out⟩
     case measure => simp [RowKit.intOf] <;> omega
    ·have hzz : (z != 0) = true := by
      rw [← hz]
      cases hc : cmp x y with
      | eq => exact absurd hc hq
      | lt => rfl
      | gt => rfl
     have HST : Hid (onceF (s.take (j + 1)) = o ++ [y]) := Lib.hid (by rw [HO.out, HI.out]; exact once_add HX.out (HI.out ▸ HY.out) hq)
     clear hq hz
     refine wp_region_quiet_below l106.mixed (by kernel_rfl) ?_
     refine quiet_start ?_
     intro L hL
     have HLL := Lib.hid hL
     clear hL
     repeat (refine quiet_at (drop_at HLL.out rfl rfl) ?_; intro K hK; go_simp; first | (refine hK _ ?_; clear hK K) | (apply Exists.intro; refine ⟨fun _ => ?_, hK _ ?_⟩; (with_reducible exact HC.out _ _); clear hK K))
     refine quiet_done HLL.out rfl ?_
     intro _ hw'
     obtain ⟨⟨dq, osq⟩, hw''⟩ := hw'
     subst hw''
     have HGX := Lib.hid (HG.out.draw (below_regrown wr dq osq) HSS.out (by have := HJ.out; omega))
     clear HC x0' x1' x2' x3' x4' x5' x6' x7' x8' y0' y1' y2' y3' y4' y5' y6' y7' y8'
     clear HG HLL
     generalize Sort.grow (redrawn wr dq) osq = wx at HGX ⊢
     have hsx := HGX.out.below.size
     have hjj := HJ.out
     obtain ⟨fv, hfv, hcells⟩ := latS_at HGX.out.sl HY.out
     obtain ⟨Kq, kcq, Mq, mcq, kq, ksq, q2, q3, q4, msq, q6, q7, xq, hye, rfl, _⟩ := FAtS.formF hfv
     obtain ⟨z0, z1, z2, z3, z4, z5, z6, z7, z8⟩ := nine_at (w := wx) (m := j * 9) hcells
     have HFV := Lib.hid hfv
     clear hfv hcells hye
     go_wp2_with (at_builtin; refine wpList_append_lies _ rfl (.tmp 30) (.tmp 35) _ rfl w1.heap.size 26 i0 _ 9 144 Tryz.underlying23 hi hz0 hz1 hz2 rfl (by decide) u5 o.length us rfl (HGX.out.row.alloc _) ⟨wx.heap.size, 0, none⟩ 1 1 [.int .i8 kq, .slice Kq ksq.length kcq, .string ⟨q2.toArray⟩, .string ⟨q3.toArray⟩, .string ⟨q4.toArray⟩, .slice Mq msq.length mcq, .string ⟨q6.toArray⟩, .string ⟨q7.toArray⟩, .bool xq] rfl rfl (news_new wx #[.int .i8 kq, .slice Kq ksq.length kcq, .string ⟨q2.toArray⟩, .string ⟨q3.toArray⟩, .string ⟨q4.toArray⟩, .slice Mq msq.length mcq, .string ⟨q6.toArray⟩, .string ⟨q7.toArray⟩, .bool xq] _ rfl) (nine_one _ _ _ _ _ _ _ _ _ _ _ _ _) (by decide) (by unfold maxLen; omega) (by omega) (by simp; omega) _ rfl ?_; intro g cap w4 ho4 hg4 hat4 hlt4; have HO4 := Lib.hid ho4; have HG4 := Lib.hid hg4; clear ho4 hg4 hat4)
     go_round
     case rel => exact ⟨j + 1, o ++ [y], _, by omega, by go_num, Lib.hid HST.out.symm, by rw [List.length_append]; show o.length + 1 ≤ _; omega, HGX.out.step HSS.out (by omega) HFV.out HG4.out HO4.out⟩
     case measure => simp [RowKit.intOf] <;> omega
  ·have ej : j = N := by omega
   have ho : o = canon l := by rw [HO.out, ej, List.take_of_length_le (by rw [HSL.out]; exact Nat.le_refl _), HCN.out]
   have hpos : 0 < o.length := by rw [ho]; exact canon_pos (by rw [HN.out]; exact h0)
   obtain ⟨g, cap, rfl, hgb, hgl⟩ := hG.row.form hpos
   obtain ⟨_, _, r3, r4⟩ := row_form hG.row
   have HZR := Lib.hid ((hG.below.block w.heap.size (by omega)).trans HZ1.out)
   have HBW := Lib.hid (HB1.out.trans (hG.below.mono (by omega)))
   have HOC := Lib.hid ho
   clear hG ho HO HZ1
   by_cases e1 : o.length = 1
   ·obtain ⟨x, hx⟩ := List.length_eq_one_iff.1 e1
    subst hx
    obtain ⟨v, hcells, ⟨Kq, kcq, Mq, mcq, kq, ksq, q2, q3, q4, msq, q6, q7, xq, rfl⟩, hfin⟩ := one_single (k := k) HG.out HSS.out HOC.out.symm
    obtain ⟨z0, z1, z2, z3, z4, z5, z6, z7, z8⟩ := nine_at0 (w := wr) hcells
    have HFN := Lib.hid hfin
    clear hcells hfin
    go_wp2_with (refine wpList_store_row rfl 26 (.tmp 4) (.tmp 42) rfl w.heap.size #[.int .i8 kq, .slice Kq ksq.length kcq, .string ⟨q2.toArray⟩, .string ⟨q3.toArray⟩, .string ⟨q4.toArray⟩, .slice Mq msq.length mcq, .string ⟨q6.toArray⟩, .string ⟨q7.toArray⟩, .bool xq] rfl rfl 26 zeroF9 HZR.out (by kernel_rfl) rfl (by simp [Value.oneCell']) ?_)
    (try simp only [Exit.inBlock, Exit.then])
    refine bodyPost_ret (results_cell_row rfl _ _ w.heap.size 26 _ (0, 0) _ rfl (setRow_heap _ _ _ _ _ _ HZR.out) Tryz.underlying26 rfl (by kernel_rfl)) rfl ?_
    exact ⟨_, rfl, HFN.out _, HBW.out.trans ⟨rfl, rfl, rfl, by simp, fun b hb => setRow_other _ _ _ _ (by omega)⟩⟩
   ·have e2 : ¬ (o.length : Int) = 1 := by omega
    have e3 : ((o.length : Int) == 1) = false := by simp; omega
    go_wp2_with (refine wpList_store_row rfl 26 (.tmp 4) (.tmp 45) rfl w.heap.size #[.int .i8 k, .slice (some ⟨g, 0, none⟩) o.length cap, .string ⟨#[]⟩, .string ⟨#[]⟩, .string ⟨#[]⟩, .slice none 0 0, .string ⟨#[]⟩, .string ⟨#[]⟩, .bool false] rfl rfl 26 zeroF9 HZR.out (by kernel_rfl) rfl (by simp [Value.oneCell']) ?_)
    (try simp only [Exit.inBlock, Exit.then])
    refine bodyPost_ret (results_cell_row rfl _ _ w.heap.size 26 _ (0, 0) _ rfl (setRow_heap _ _ _ _ _ _ HZR.out) Tryz.underlying26 rfl (by kernel_rfl)) rfl ?_
    exact ⟨_, rfl, one_many (N := N) HG.out HSS.out (by omega) HOC.out (by omega) (by omega) HKK.out rfl _, HBW.out.trans ⟨rfl, rfl, rfl, by simp, fun b hb => setRow_other _ _ _ _ (by omega)⟩⟩
end Go.Proofs.YtdkfmckbeagenaaGreatDoor

namespace Go.FltLaw
theorem turnBs_get (t : Bool) : ∀ (xs : List Node) (j : Nat) (x : Node), xs[j]? = some x → (turnBs t xs)[j]? = some (turnB t x) := by
 cases t with
 | false => intro xs j x h; exact h
 | true =>
  intro xs
  induction xs with
  | nil => intro j x h; simp at h
  | cons y ys ih =>
   intro j x h
   cases j with
   | zero => simp at h; subst h; rfl
   | succ j => simp at h; exact ih j x h
theorem growns_get : ∀ (fs : List Flt) (j : Nat) (f : Flt), fs[j]? = some f → (growns fs)[j]? = some (grown f)
 | [], _, _, h => by simp at h
 | g :: fs, 0, f, h => by simp at h; subst h; simp [growns]
 | g :: fs, j + 1, f, h => by simp at h; simp [growns]; exact growns_get fs j f h
theorem turnBs_len (t : Bool) (xs : List Node) : (turnBs t xs).length = xs.length := by
 cases t with
 | false => rfl
 | true =>
  show (turnNs xs).length = _
  induction xs with
  | nil => rfl
  | cons y ys ih => simp [turnNs, ih]
theorem growns_length : ∀ fs : List Flt, (growns fs).length = fs.length
 | [] => rfl
 | f :: fs => by simp [growns, growns_length fs]
theorem node_item {k : Int} {ks : List Flt} {ds vl st : List UInt8} {ms : List (List UInt8)} {fn rl : List UInt8} {dn : Bool} (h : 2 < k) (t : Bool) : laid (turnB t (grown (.mk k ks ds vl st ms fn rl dn))) = if t then notF (.mk k ks ds vl st ms fn rl dn) else .mk k ks ds vl st ms fn rl dn := by
 cases t <;> simp [turnB, grown, h, laid, turnN]
theorem node_not (g : Flt) (gs : List Flt) (ds vl st : List UInt8) (ms : List (List UInt8)) (fn rl : List UInt8) (dn t : Bool) : turnB t (grown (.mk 2 (g :: gs) ds vl st ms fn rl dn)) = turnB (!t) (grown g) := by
 have e : grown (.mk 2 (g :: gs) ds vl st ms fn rl dn) = turnN (grown g) := by simp [grown, headGrown]
 rw [e]
 cases t
 ·rfl
 ·exact turn_turn _
theorem node_junc {k : Int} {ks : List Flt} {ds vl st : List UInt8} {ms : List (List UInt8)} {fn rl : List UInt8} {dn : Bool} (h : k = 0 ∨ k = 1) (t : Bool) : turnB t (grown (.mk k ks ds vl st ms fn rl dn)) = .junc (if t then 1 - k else k) (turnBs t (growns ks)) := by
 have e : grown (.mk k ks ds vl st ms fn rl dn) = .junc k (growns ks) := by
  unfold grown
  rw [if_neg (by omega), if_neg (by omega)]
 rw [e]
 cases t
 ·rfl
 ·simp [turnB, turnBs, turnN]
end Go.FltLaw
namespace Go.Proofs.YtdkfmckbeagenaaGreatDoor
open Go.RowKit Go.FltLaw Go.Lib Go.RankLaw

theorem two_mid (w : World) (o1 o2 : Obj) : ((w.alloc o1).alloc o2).heap[w.heap.size + 1]? = some o2 := heap_alloc2_new w o1 o2
theorem three_mid (w : World) (o1 o2 o3 : Obj) : (((w.alloc o1).alloc o2).alloc o3).heap[w.heap.size + 1]? = some o2 := kb_alloc (heap_alloc2_new w o1 o2)
theorem below_two (w : World) (o1 o2 : Obj) (cs : Array Value) : Below w.heap.size w (((w.alloc o1).alloc o2).setRow (w.heap.size + 1) cs) :=
 (((Below.refl _ _).alloc (Nat.le_refl _) _).alloc (by simp) _).trans ⟨rfl, rfl, rfl, by simp, fun b hb => setRow_other _ _ _ _ (by omega)⟩
theorem below_three (w : World) (o1 o2 o3 : Obj) (cs : Array Value) : Below w.heap.size w ((((w.alloc o1).alloc o2).alloc o3).setRow (w.heap.size + 1) cs) :=
 ((((Below.refl _ _).alloc (Nat.le_refl _) _).alloc (by simp) _).alloc (by simp; omega) _).trans ⟨rfl, rfl, rfl, by simp, fun b hb => setRow_other _ _ _ _ (by omega)⟩
theorem not_row {S : Nat → Prop} {w : World} {n : Nat} {f : Flt} {cs c3 : Array Value} {o1 o2 : Obj} {t : TypeId} (hF : FAtS S w n f (.agg c3)) (hS : ∀ b, S b → b < w.heap.size) (h2 : (((w.alloc o1).alloc o2).alloc (.cells c3 t)).heap[w.heap.size + 2]? = some (.cells c3 t (0, 0))) :
  FAtS (fun b => S b ∨ Itv w.heap.size ((((w.alloc o1).alloc o2).alloc (.cells c3 t)).setRow (w.heap.size + 1) cs).heap.size b) ((((w.alloc o1).alloc o2).alloc (.cells c3 t)).setRow (w.heap.size + 1) cs) (n + 1) (notF f)
   (.agg #[.int .i8 2, .slice (some ⟨w.heap.size + 1 + 1, 0, none⟩) 1 1, .string ⟨#[]⟩, .string ⟨#[]⟩, .string ⟨#[]⟩, .slice none 0 0, .string ⟨#[]⟩, .string ⟨#[]⟩, .bool false]) := by
 have hb := below_three w o1 o2 (.cells c3 t) cs
 refine ⟨some ⟨w.heap.size + 1 + 1, 0, none⟩, 1, none, 0, rfl, ⟨by omega, by omega, by simp, by unfold maxLen; omega, by simp, by simp, by simp, by simp, by simp, by unfold maxLen; omega, by simp, by simp, by simp, by simp⟩, fun h => by simp at h, fun _ => ⟨_, rfl, .inr ⟨by simp; omega, by simp⟩, fun i g hi => ?_⟩⟩
 have hi0 : i = 0 := by have := (List.getElem?_eq_some_iff.1 hi).1; simp at this; omega
 subst hi0
 simp at hi
 subst hi
 refine ⟨.agg c3, (hF.keep fun p hp => hb.cell (hS _ hp)).mono fun b hb => .inl hb, fun j u hu => ?_⟩
 have e : (⟨w.heap.size + 1 + 1, 0, none⟩ : Addr).add (0 * 9 + j) = ⟨w.heap.size + 2, j, none⟩ := by unfold Addr.add; split <;> simp_all
 rw [e]
 have h3 : ((((w.alloc o1).alloc o2).alloc (.cells c3 t)).setRow (w.heap.size + 1) cs).heap[w.heap.size + 2]? = some (.cells c3 t (0, 0)) := by rw [setRow_other _ _ _ _ (by omega)]; exact h2
 have hu' : c3[j]? = some u := hu
 unfold World.cell?
 simp only [h3]
 exact hu'
structure Forming (w wr : World) (S : Nat → Prop) (n j : Nat) (k : Int) (box : Array Value) (xs : List FltLaw.Node) (kv : Value) (us : List Value) : Prop where
 below : Below w.heap.size w wr
 fb : wr.heap[w.heap.size]? = some (.cells box 26 (0, 0))
 rb : wr.heap[w.heap.size + 1]? = some (.cells zeroF9 26 (0, 0))
 row : wr.ownsRow (w.heap.size + 2) 26 9 kv (flat k (laids (xs.take j))).length us
 kids : KidsS (GS S w wr kv) wr n (flat k (laids (xs.take j))) us
section
variable {w wr w3 w4 : World} {S : Nat → Prop} {n j g cap : Nat} {k : Int} {box : Array Value} {xs : List FltLaw.Node} {kv : Value} {us news : List Value} {x : FltLaw.Node}
theorem Forming.size (h : Forming w wr S n j k box xs kv us) : w.heap.size + 2 ≤ wr.heap.size := by
 have := (Array.getElem?_eq_some_iff.1 h.rb).1
 omega
theorem Forming.start (w : World) (S : Nat → Prop) (n : Nat) (k : Int) (box : Array Value) (xs : List FltLaw.Node) : Forming w ((w.alloc (.cells box 26)).alloc (.cells zeroF9 26)) S n 0 k box xs (.slice none 0 0) [] :=
 ⟨((Below.refl _ _).alloc (Nat.le_refl _) _).alloc (by simp) _, heap_alloc2_old _ _ _, heap_alloc2_new _ _ _, by rw [List.take_zero]; exact World.ownsRow_nil _ _ _ _, by rw [List.take_zero]; exact KidsS.nil _ _ _ _⟩
theorem Forming.step {ms : List Flt} (hms : flat1 k (FltLaw.laid x) = ms) (hS : ∀ b, S b → b < w.heap.size) (h : Forming w wr S n j k box xs kv us) (hx : xs[j]? = some x) (h3 : Below wr.heap.size wr w3) (hks : KidsS (fun b => S b ∨ (wr.heap.size ≤ b ∧ b < w3.heap.size)) w3 n ms news)
  (hg : w3.grownBy w4 kv.ownBlock) (hown : w4.ownsRow (w.heap.size + 2) 26 9 (.slice (some ⟨g, 0, none⟩) ((flat k (laids (xs.take j))).length + ms.length) cap) ((flat k (laids (xs.take j))).length + ms.length) (us ++ news))
  (hat : kv.ownBlock = some g ∨ w3.heap.size ≤ g) :
  Forming w w4 S n (j + 1) k box xs (.slice (some ⟨g, 0, none⟩) ((flat k (laids (xs.take j))).length + ms.length) cap) (us ++ news) := by
 subst hms
 have hsz := h.size
 have s3 := h3.size
 have s4 := hg.size
 have hkb : ∀ b, kv.ownBlock = some b → w.heap.size + 2 ≤ b ∧ b < wr.heap.size := fun b e => h.row.lt b e
 have nk : ∀ b, b < w.heap.size + 2 → kv.ownBlock ≠ some b := fun b hb e => by have := hkb b e; omega
 have old : ∀ b, b < wr.heap.size → kv.ownBlock ≠ some b → w4.heap[b]? = wr.heap[b]? := fun b hb hne => by rw [hg.block b (by omega) hne.symm, h3.block b hb]
 have gne : ∀ b, b < w3.heap.size → kv.ownBlock ≠ some b → g ≠ b := fun b hb hne e => by
  subst e
  rcases hat with e | e
  ·exact hne e
  ·omega
 refine ⟨(h.below.trans (h3.mono (by omega))).grown hg (by omega) (fun b e => by have := hkb b e; omega), ?_, ?_, ?_, ?_⟩
 ·rw [old _ (by omega) (nk _ (by omega))]; exact h.fb
 ·rw [old _ (by omega) (nk _ (by omega))]; exact h.rb
 ·rw [flat_step k hx, List.length_append]; exact hown
 ·rw [flat_step k hx]
  refine KidsS.app h.row.1 ?_ ?_
  ·refine (h.kids.keep fun p hp => ?_).mono fun b hb => ?_
   ·rcases hp with hp | hp
    ·have := hS _ hp; exact World.cell?_of_block (old _ (by omega) (nk _ (by omega)))
    ·exact World.cell?_of_block (old _ hp.2.1 hp.2.2)
   ·rcases hb with hb | ⟨b1, b2, b3⟩
    ·exact .inl hb
    ·refine .inr ⟨b1, by omega, fun e => ?_⟩
     simp only [Value.ownBlock, Option.some.injEq] at e
     exact gne b (by omega) b3 e
  ·refine (hks.keep fun p hp => ?_).mono fun b hb => ?_
   ·have hlt : p.block < w3.heap.size ∧ kv.ownBlock ≠ some p.block := by
     rcases hp with hp | hp
     ·have := hS _ hp; exact ⟨by omega, nk _ (by omega)⟩
     ·exact ⟨by omega, fun e => by have := hkb _ e; omega⟩
    exact World.cell?_of_block (hg.block _ hlt.1 hlt.2.symm)
   ·rcases hb with hb | hb
    ·exact .inl hb
    ·refine .inr ⟨by omega, by omega, fun e => ?_⟩
     simp only [Value.ownBlock, Option.some.injEq] at e
     exact gne b (by omega) (fun e => by have := hkb _ e; omega) e
theorem Forming.list (h : Forming w wr S n j k box xs kv us) (hj : j = xs.length) (hS : ∀ b, S b → b < w.heap.size) : ∃ A c, kv = .slice A (flat k (laids xs)).length c ∧ LAtS (fun b => S b ∨ Itv (w.heap.size + 2) wr.heap.size b) wr n (flat k (laids xs)) A c ∧ ∀ b, (S b ∨ Itv (w.heap.size + 2) wr.heap.size b) → b < wr.heap.size := by
 subst hj
 have hr := h.row
 have hk := h.kids
 rw [List.take_length] at hr hk
 have hsz := h.size
 obtain ⟨A, c, e, hL⟩ := LAtS.of_row (k := 0) hr (hk.mono (T := fun b => S b ∨ Itv (w.heap.size + 2) wr.heap.size b) fun b hb => hb.imp id fun hb => ⟨hb.1, hb.2.1⟩) (fun b e => .inr (hr.lt b e))
 refine ⟨A, c, e, hL, fun b hb => ?_⟩
 rcases hb with hb | hb
 ·have := hS b hb; omega
 ·exact hb.2
theorem Forming.fin {w6 : World} {f : Flt} {v : Value} {cs : Array Value} (h : Forming w wr S n j k box xs kv us) (hS : ∀ b, S b → b < w.heap.size) (hF : FAtS (fun b => (S b ∨ Itv (w.heap.size + 2) wr.heap.size b) ∨ Itv wr.heap.size w6.heap.size b) w6 (n + 1) f v) (hb : Below wr.heap.size wr w6) :
  FAtS (fun b => S b ∨ Itv w.heap.size (w6.setRow (w.heap.size + 1) cs).heap.size b) (w6.setRow (w.heap.size + 1) cs) (n + 1) f v ∧ Below w.heap.size w (w6.setRow (w.heap.size + 1) cs) := by
 have hsz := h.size
 have hs6 := hb.size
 refine ⟨(hF.keep fun p hp => World.cell?_of_block (setRow_other _ _ _ _ ?_)).mono fun b hb => ?_, (h.below.trans (hb.mono (by omega))).trans ⟨rfl, rfl, rfl, by simp, fun b hb => setRow_other _ _ _ _ (by omega)⟩⟩
 ·rcases hp with (hp | hp) | hp
  ·have := hS _ hp; omega
  ·have := hp.1; omega
  ·have := hp.1; omega
 ·rcases hb with (hb | hb) | hb
  ·exact .inl hb
  ·exact .inr ⟨by have := hb.1; omega, by have := hb.2; simp; omega⟩
  ·exact .inr ⟨by have := hb.1; omega, by have := hb.2; simp; omega⟩
end
set_option maxHeartbeats 3200000 in
set_option maxRecDepth 100000 in
theorem form_p (RC : RefCmp) : ∀ (fuel : Nat) (f : Flt) (t : Bool) (v : Value) (w : World) (S : Nat → Prop), FAtS S w fuel f v → (∀ b, S b → b < w.heap.size) → Fine f → sizeN (turnB t (grown f)) ≤ 65536 → deepN (turnB t (grown f)) ≤ 65 →
  Calls Tryz.prog 22 #[v, .bool t] w (One1 (fuel + 1) S (FltLaw.laid (turnB t (grown f))) w) := by
 intro fuel
 induction fuel with
 | zero => intro f t v w S h; exact h.elim
 | succ fuel ih =>
  intro f t v w S hF hS hf hsz hdp
  obtain ⟨k, ks, ds, vl, st, ms, fn, rl, dn⟩ := f
  have hF0 := hF
  obtain ⟨KA, kc, MA, mc, rfl, hfit, _, hx⟩ := hF
  unfold flt at hF0 ⊢
  have hf0 := hf
  unfold Fine at hf
  obtain ⟨_, hright, hfs⟩ := hf
  by_cases hk2 : 2 < k
  ·have HF := Lib.hid hF0
   have HSS := Lib.hid hS
   have hk2' : decide (k > 2) = true := by simpa using hk2
   have HE := Lib.hid (node_item (ks := ks) (ds := ds) (vl := vl) (st := st) (ms := ms) (fn := fn) (rl := rl) (dn := dn) hk2 t)
   clear ih hF0 hS hf0 hsz hdp hfit hx hright hfs
   cases t with
   | true =>
    have HR := fun o o' => Lib.hid (three_mid w o (.cells zeroF9 26) o')
    have H2 := fun o o' => Lib.hid (alloc3_new w o o' (.cells #[.int .i8 k, .slice KA ks.length kc, .string ⟨ds.toArray⟩, .string ⟨vl.toArray⟩, .string ⟨st.toArray⟩, .slice MA ms.length mc, .string ⟨fn.toArray⟩, .string ⟨rl.toArray⟩, .bool dn] 26))
    go_enter Tryz.func22, Tryz.ntmps22
    go_wp2_with (refine wpList_store_row rfl 26 (.tmp 4) (.tmp 15) rfl (w.heap.size + 1) #[.int .i8 2, .slice (some ⟨w.heap.size + 1 + 1, 0, none⟩) 1 1, .string ⟨#[]⟩, .string ⟨#[]⟩, .string ⟨#[]⟩, .slice none 0 0, .string ⟨#[]⟩, .string ⟨#[]⟩, .bool false] rfl rfl 26 zeroF9 (HR _ _).out (by kernel_rfl) rfl (by simp [Value.oneCell']) ?_)
    (try simp only [Exit.inBlock, Exit.then])
    refine bodyPost_ret (results_cell_row rfl _ _ (w.heap.size + 1) 26 _ (0, 0) _ rfl (setRow_heap _ _ _ _ _ _ (HR _ _).out) Tryz.underlying26 rfl (by kernel_rfl)) rfl ?_
    refine ⟨_, rfl, ?_, below_three _ _ _ _ _⟩
    rw [HE.out]
    exact not_row HF.out HSS.out (H2 _ _).out
   | false =>
    have HR := fun o => Lib.hid (two_mid w o (.cells zeroF9 26))
    go_enter Tryz.func22, Tryz.ntmps22
    go_wp2_with (refine wpList_store_row rfl 26 (.tmp 4) (.tmp 16) rfl (w.heap.size + 1) #[.int .i8 k, .slice KA ks.length kc, .string ⟨ds.toArray⟩, .string ⟨vl.toArray⟩, .string ⟨st.toArray⟩, .slice MA ms.length mc, .string ⟨fn.toArray⟩, .string ⟨rl.toArray⟩, .bool dn] rfl rfl 26 zeroF9 (HR _).out (by kernel_rfl) rfl (by simp [Value.oneCell']) ?_)
    (try simp only [Exit.inBlock, Exit.then])
    refine bodyPost_ret (results_cell_row rfl _ _ (w.heap.size + 1) 26 _ (0, 0) _ rfl (setRow_heap _ _ _ _ _ _ (HR _).out) Tryz.underlying26 rfl (by kernel_rfl)) rfl ?_
    refine ⟨_, rfl, ?_, below_two _ _ _ _⟩
    rw [HE.out]
    refine FAtS.up (Nat.le_succ _) ((HF.out.keep fun p hp => ?_).mono fun b hb => .inl hb)
    exact (below_two _ _ _ _).cell (HSS.out _ hp)
  ·obtain ⟨hkk, hpos⟩ := right_kind hright hk2
   obtain ⟨ad, rfl, hadS, hel⟩ := hx hpos
   have hadb := hS _ hadS
   have hk2' : decide (k > 2) = false := by simpa using hk2
   by_cases hk3 : k = 2
   ·subst hk3
    obtain ⟨g, rfl⟩ : ∃ g, ks = [g] := by
     have hl := right_not hright
     match ks, hl with
     | [g], _ => exact ⟨g, rfl⟩
    rw [node_not] at hsz hdp ⊢
    obtain ⟨v, hv, hc⟩ := hel 0 g rfl
    obtain ⟨kA, kc2, mA, mc2, kq, ksq, q2, q3, q4, msq, q6, q7, xq, rfl, rfl, _⟩ := FAtS.formF hv
    have hb2 : ∀ o1 o2, Below w.heap.size w ((w.alloc o1).alloc o2) := fun o1 o2 => ((Below.refl _ _).alloc (Nat.le_refl _) _).alloc (by simp) _
    have HB2 := Lib.hid hb2
    have HV := Lib.hid (fun o o' => hv.below hS (hb2 o o'))
    have HSS := Lib.hid hS
    have HFG : RowKit.Hid (Fine _) := Lib.hid hfs.1
    have IH := Lib.hid ih
    have HSZ := Lib.hid (And.intro hsz hdp)
    have L := fun o o' => nine_at0 (w := (w.alloc o).alloc o') (ad := ad) (fun q u hu => ((hb2 o o').cell (p := ad.add q) (by rw [RankLaw.add_block]; exact hadb)).trans (by simpa using hc q u hu))
    have l0 := fun o o' => (L o o').1
    have l1 := fun o o' => (L o o').2.1
    have l2 := fun o o' => (L o o').2.2.1
    have l3 := fun o o' => (L o o').2.2.2.1
    have l4 := fun o o' => (L o o').2.2.2.2.1
    have l5 := fun o o' => (L o o').2.2.2.2.2.1
    have l6 := fun o o' => (L o o').2.2.2.2.2.2.1
    have l7 := fun o o' => (L o o').2.2.2.2.2.2.2.1
    have l8 := fun o o' => (L o o').2.2.2.2.2.2.2.2
    have HR := fun o => Lib.hid (two_mid w o (.cells zeroF9 26))
    have hkn := hfit.kn1
    have hkc := hfit.kc0
    simp only [List.length_singleton] at hkn hkc ⊢
    clear ih hF0 hS hf0 hsz hdp hfit hx hright hfs hel hv hc hb2 L
    go_enter Tryz.func22, Tryz.ntmps22
    go_wp2_with (first
     | (go_at_call 22; go_loud ((with_reducible refine (IH.out _ (!t) _ _ S (HV.out _ _) (fun b hb => by have := HSS.out b hb; simp; omega) HFG.out HSZ.out.1 HSZ.out.2).mono ?_); rintro e w3 ⟨v3, rfl, hf3, hb3⟩; have hb3' := (HB2.out _ _).trans (hb3.mono (by simp; omega)); have HB3 := Lib.hid hb3'; have hsz3 := hb3.size; have HR3 := Lib.hid ((hb3.block (w.heap.size + 1) (by simp)).trans (HR _).out); obtain ⟨yA, yc, yM, ymc, yk, yks, y2, y3, y4, yms, y6, y7, yx, hye, rfl, _⟩ := FAtS.formF hf3; have HF3 := Lib.hid hf3; clear hf3 hb3 hb3' hye))
     | (refine wpList_store_row rfl 26 (.tmp 4) (.tmp 26) rfl (w.heap.size + 1) #[.int .i8 yk, .slice yA yks.length yc, .string ⟨y2.toArray⟩, .string ⟨y3.toArray⟩, .string ⟨y4.toArray⟩, .slice yM yms.length ymc, .string ⟨y6.toArray⟩, .string ⟨y7.toArray⟩, .bool yx] rfl rfl 26 zeroF9 HR3.out (by kernel_rfl) rfl (by simp [Value.oneCell']) ?_))
    (try simp only [Exit.inBlock, Exit.then])
    refine bodyPost_ret (results_cell_row rfl _ _ (w.heap.size + 1) 26 _ (0, 0) _ rfl (setRow_heap _ _ _ _ _ _ HR3.out) Tryz.underlying26 rfl (by kernel_rfl)) rfl ?_
    refine ⟨_, rfl, ?_, HB3.out.trans ⟨rfl, rfl, rfl, by simp, fun b hb => setRow_other _ _ _ _ (by omega)⟩⟩
    refine FAtS.up (Nat.le_succ _) ((HF3.out.keep fun p hp => World.cell?_of_block (setRow_other _ _ _ _ ?_)).mono fun b hb => ?_)
    ·rcases hp with hp | hp
     ·have := HSS.out _ hp; omega
     ·have := hp.1; simp at this; omega
    ·rcases hb with hb | hb
     ·exact .inl hb
     ·exact .inr ⟨by have := hb.1; simp at this; omega, by have := hb.2; simp; omega⟩
   ·have hk01 : k = 0 ∨ k = 1 := by omega
    have hfine := turnB_fine (grown_char hf0).1 t
    rw [node_junc hk01] at hsz hdp hfine ⊢
    obtain ⟨kd, hkd⟩ : ∃ kd, (if t = true then 1 - k else k) = kd := ⟨_, rfl⟩
    obtain ⟨xs, hxs⟩ : ∃ xs, turnBs t (growns ks) = xs := ⟨_, rfl⟩
    obtain ⟨N, hN⟩ : ∃ N, ks.length = N := ⟨_, rfl⟩
    rw [hkd, hxs] at hsz hdp hfine ⊢
    have hxl : xs.length = N := by rw [← hxs, turnBs_len, growns_length, hN]
    have hxg : ∀ j q, ks[j]? = some q → xs[j]? = some (turnB t (grown q)) := fun j q hq => by rw [← hxs]; exact turnBs_get t _ _ _ (growns_get _ _ _ hq)
    obtain ⟨hmay, hflen⟩ := flat_may hfine hsz hdp
    have hfine0 := hfine
    unfold FineN at hfine
    obtain ⟨hkd01, hne, hxfs⟩ := hfine
    have hflne : flat kd (laids xs) ≠ [] := by
     obtain ⟨c1, _, _, c4⟩ := laids_char hxfs
     refine (flat_norm hkd01 (fun y hy => (c1 y hy).1.norm)).1 fun e => ?_
     rw [e] at c4
     simp at c4
     omega
    have hkn := hfit.kn1
    have hkc := hfit.kc0
    rw [hN] at hpos hkn hkc
    simp only [sizeN] at hsz
    simp only [deepN] at hdp
    obtain ⟨i0, hi, hz0, hz1, hz2⟩ := info_parts infoF26
    have IH := Lib.hid ih
    have HEL := Lib.hid hel
    have HSS := Lib.hid hS
    have HFS := Lib.hid hfs
    have HXF := Lib.hid hxfs
    have HXG := Lib.hid hxg
    have HXL := Lib.hid hxl
    have HMAY := Lib.hid hmay
    have HNE := Lib.hid hflne
    have HK01 := Lib.hid hkd01
    have HSZ := Lib.hid (And.intro hsz hdp)
    have HN := Lib.hid hN
    have HKD := Lib.hid hkd
    have hJ := laid_junc kd xs
    have HJ := Lib.hid hJ
    have HFL := Lib.hid hflen
    have hbf : ∀ o o', Hid (((w.alloc o).alloc o').heap[w.heap.size]? = some o) := fun o o' => Lib.hid (heap_alloc2_old w o o')
    have hk01' := hk01
    clear ih hF0 hS hf0 hsz hdp hfit hx hright hfs hel hxfs hxg hxl hmay hflne hkd01 hfine0 hne hxs hJ hflen
    rw [hN]
    clear hN
    go_enter Tryz.func22, Tryz.ntmps22
    go_upto_if 29 with fail
    go_cut [5] (fun s w' => s = .int .i8 kd ∧ w' = (w.alloc (.cells #[.int .i8 k, .slice (some ad) N kc, .string ⟨ds.toArray⟩, .string ⟨vl.toArray⟩, .string ⟨st.toArray⟩, .slice MA ms.length mc, .string ⟨fn.toArray⟩, .string ⟨rl.toArray⟩, .bool dn] 26)).alloc (.cells zeroF9 26))
    case first =>
     rcases hk01 with rfl | rfl <;> cases t
     all_goals
      go_wp2_with fail
      go_meet
      case rel => exact ⟨by rw [← HKD.out]; rfl, rfl⟩
    case rest =>
     obtain ⟨rfl, rfl⟩ := hcut
     clear hkd hbf
     go_wp2_with fail
     go_loopw [6, 7] (fun kv i wr => ∃ (j : Nat) (us : List Value), j ≤ N ∧ i = .int .i64 j ∧ Forming w wr S (fuel + 1) j kd #[.int .i8 k, .slice (some ad) N kc, .string ⟨ds.toArray⟩, .string ⟨vl.toArray⟩, .string ⟨st.toArray⟩, .slice MA ms.length mc, .string ⟨fn.toArray⟩, .string ⟨rl.toArray⟩, .bool dn] xs kv us) (fun _ i _ => N - (RowKit.intOf i).toNat)
     case atStart => exact ⟨0, [], Nat.zero_le _, rfl, Forming.start _ _ _ _ _ _⟩
     case round =>
      obtain ⟨j, us, hj, rfl, hL⟩ := hrel
      have HL := Lib.hid hL
      have hsz := hL.size
      have c1 : wr.cell? ⟨w.heap.size, 1, none⟩ = some (.slice (some ad) N kc) := by simp [World.cell?, hL.fb]
      by_cases hlt : j < N
      ·have hke := List.getElem?_eq_getElem (l := ks) (i := j) (by rw [HN.out]; exact hlt)
       generalize ks[j]'(by rw [HN.out]; exact hlt) = q at hke
       obtain ⟨fv, hfv, hcells⟩ := HEL.out j q hke
       obtain ⟨fA, fc, fM, fmc, fk, fks, f2, f3, f4, fms, f6, f7, fx, rfl, rfl, _⟩ := FAtS.formF hfv
       obtain ⟨l0, l1, l2, l3, l4, l5, l6, l7, l8⟩ := nine_at (w := wr) (m := j * 9) (fun q u hu => (hL.below.cell (p := ad.add (j * 9 + q)) (by rw [RankLaw.add_block]; exact hadb)).trans (hcells q u hu))
       have HFV := Lib.hid (hfv.below HSS.out hL.below)
       have HQF := Lib.hid (fines_iff.1 HFS.out _ (List.mem_of_getElem? hke))
       have hxe := HXG.out j _ hke
       have HXX := Lib.hid (fineNs_mem HXF.out hxe)
       have HXS := Lib.hid (sizeNs_mem (List.mem_of_getElem? hxe))
       have hcntle : (flat kd (laids (xs.take (j + 1)))).length ≤ 65535 := by have := flat_le kd xs (j + 1); have := HFL.out; omega
       rw [flat_step kd hxe, List.length_append] at hcntle
       have HRow := Lib.hid hL.row
       obtain ⟨x, hxx⟩ : ∃ x, turnB t (grown (.mk fk fks f2 f3 f4 fms f6 f7 fx)) = x := ⟨_, rfl⟩
       rw [hxx] at hxe HXX HXS hcntle
       have HXE := Lib.hid hxe
       have HCL := Lib.hid hxx
       have HIH := Lib.hid (IH.out (.mk fk fks f2 f3 f4 fms f6 f7 fx) t _ wr S HFV.out (fun b hb => by have := HSS.out b hb; omega) HQF.out (by rw [hxx]; have := HXS.out.1; have := HSZ.out.1; omega) (by rw [hxx]; have := HXS.out.2; have := HSZ.out.2; omega))
       rw [hxx] at HIH
       clear hfv hcells hke hL hxe hxx
       by_cases hkk : kindOf (FltLaw.laid x) = kd
       ·go_wp2_with (first
         | (go_at_call 22; (with_reducible refine HIH.out.mono ?_); rintro e w2 ⟨v2, rfl, hf2, hb2⟩; have hz2w := hb2.size; have HB2 := Lib.hid hb2; obtain ⟨kA, kc2, mA, mc2, kq, ksq, q2, q3, q4, msq, q6, q7, xq, hxe, rfl, hfit2, hks2⟩ := FAtS.open hf2; have hkq : kq = kd := (by rw [hxe] at hkk; exact hkk); have hms : flat1 kd (FltLaw.laid x) = ksq := (by unfold flat1; rw [if_pos hkk, hxe]; rfl); have hkp : 0 < ksq.length := (by have := laid_pos HXX.out HK01.out hkk; rw [hxe] at this; exact this); obtain ⟨ad2, rfl, hs2, hel2⟩ := hks2 hkp; obtain ⟨news, hnl, hnc, hnk, hno⟩ := kids_news hel2; have hlt2 : ad2.block < w2.heap.size := (by rcases hs2 with h | h; have := HSS.out _ h; omega; exact h.2); rw [hms] at hcntle; have HNC := Lib.hid (news_alloc hnc hlt2); have HNK := Lib.hid (kids_alloc HSS.out (by omega) hnk); have HNL := Lib.hid hnl; have HNO := Lib.hid hno; have HMS := Lib.hid hms; clear hf2 hb2 hxe hfit2 hks2 hs2 hel2 hnl hnc hnk hno hms hlt2)
         | (at_builtin; refine wpList_append_lies _ rfl (.tmp 51) (.tmp 53) _ rfl (w.heap.size + 2) 26 i0 _ 9 144 Tryz.underlying23 hi hz0 hz1 hz2 rfl (by decide) u6 (flat kd (laids (xs.take j))).length us rfl ((own_later HRow.out HB2.out).alloc _) ad2 ksq.length kc2 news rfl HNL.out (HNC.out _) HNO.out (by omega) (by unfold maxLen; omega) (by omega) (by simp; omega) _ rfl ?_; intro g cap w4 hown4 hg4 hat4 hlt4; have HO4 := Lib.hid hown4; have HG4 := Lib.hid hg4; have HAT4 := Lib.hid hat4; clear hown4 hg4 hat4))
        go_round
        case rel => exact ⟨j + 1, us ++ news, by omega, by go_num, HL.out.step HMS.out HSS.out HXE.out ((HB2.out.alloc (by omega) _)) (HNK.out _) HG4.out HO4.out (HAT4.out.imp id fun e => by rw [e]; exact Nat.le_refl _)⟩
        case measure => simp [RowKit.intOf]; omega
       ·go_wp2_with (first
         | (go_at_call 22; (with_reducible refine HIH.out.mono ?_); rintro e w2 ⟨v2, rfl, hf2, hb2⟩; have hz2w := hb2.size; have HB2 := Lib.hid hb2; have HF2 := Lib.hid hf2; obtain ⟨kA, kc2, mA, mc2, kq, ksq, q2, q3, q4, msq, q6, q7, xq, hxe, rfl, hfit2, hks2⟩ := FAtS.open hf2; have hkq : ¬ kq = kd := (by rw [hxe] at hkk; exact hkk); have hms : flat1 kd (FltLaw.laid x) = [FltLaw.laid x] := (by unfold flat1; rw [if_neg hkk]); rw [hms] at hcntle; have hcnt2 : (flat kd (laids (xs.take j))).length + 1 ≤ 65535 := hcntle; have HNK := Lib.hid (fun o o' => kids_alloc (B := w.heap.size) HSS.out (by simp; omega) (kids_alloc (B := w.heap.size) HSS.out (by omega) (KidsS.one HF2.out) o) o'); have HMS := Lib.hid hms; clear hf2 hb2 hxe hfit2 hks2 hms)
         | (at_builtin; refine wpList_append_lies _ rfl (.tmp 55) (.tmp 57) _ rfl (w.heap.size + 2) 26 i0 _ 9 144 Tryz.underlying23 hi hz0 hz1 hz2 rfl (by decide) u6 (flat kd (laids (xs.take j))).length us rfl (((own_later HRow.out HB2.out).alloc _).alloc _) ⟨w2.heap.size + 1, 0, none⟩ 1 1 [.int .i8 kq, .slice kA ksq.length kc2, .string ⟨q2.toArray⟩, .string ⟨q3.toArray⟩, .string ⟨q4.toArray⟩, .slice mA msq.length mc2, .string ⟨q6.toArray⟩, .string ⟨q7.toArray⟩, .bool xq] rfl rfl (news_new (w2.alloc _) #[.int .i8 kq, .slice kA ksq.length kc2, .string ⟨q2.toArray⟩, .string ⟨q3.toArray⟩, .string ⟨q4.toArray⟩, .slice mA msq.length mc2, .string ⟨q6.toArray⟩, .string ⟨q7.toArray⟩, .bool xq] _ (by simp)) (nine_one _ _ _ _ _ _ _ _ _ _ _ _ _) (by decide) (by unfold maxLen; omega) (by omega) (by simp; omega) _ rfl ?_; intro g cap w4 hown4 hg4 hat4 hlt4; have HO4 := Lib.hid hown4; have HG4 := Lib.hid hg4; have HAT4 := Lib.hid hat4; clear hown4 hg4 hat4))
        go_round
        case rel => exact ⟨j + 1, us ++ [.int .i8 kq, .slice kA ksq.length kc2, .string ⟨q2.toArray⟩, .string ⟨q3.toArray⟩, .string ⟨q4.toArray⟩, .slice mA msq.length mc2, .string ⟨q6.toArray⟩, .string ⟨q7.toArray⟩, .bool xq], by omega, by go_num, HL.out.step HMS.out HSS.out HXE.out ((HB2.out.alloc (by omega) _).alloc (by simp; omega) _) (HNK.out _ _) HG4.out HO4.out (HAT4.out.imp id fun e => by rw [e]; exact Nat.le_refl _)⟩
        case measure => simp [RowKit.intOf]; omega
      ·have ej : j = N := by omega
       obtain ⟨A1, c9, hkv, hLL, hLB⟩ := hL.list (by rw [HXL.out]; exact ej) HSS.out
       subst hkv
       have HLL := Lib.hid hLL
       have HLB := Lib.hid hLB
       have HR0 := Lib.hid hL.rb
       have hfl0 := List.length_pos_iff.2 HNE.out
       have hfl1 := HFL.out
       clear hL hLL hLB
       go_wp2_with (first
        | (go_at_call 39; go_loud ((with_reducible refine (one_p RC (fuel + 1) kd (flat kd (laids xs)) (flat kd (laids xs)).length A1 c9 _ wr rfl HLL.out HLB.out HMAY.out hfl0 hfl1 HK01.out).mono ?_); rintro e w3 ⟨v3, rfl, hf3, hb3⟩; have hsz3 := hb3.size; have HR3 := Lib.hid ((hb3.block (w.heap.size + 1) (by omega)).trans HR0.out); obtain ⟨yA, yc, yM, ymc, yk, yks, y2, y3, y4, yms, y6, y7, yx, hye, rfl, _⟩ := FAtS.formF hf3; have HF3 := Lib.hid hf3; have HB3 := Lib.hid hb3; clear hf3 hb3 hye))
        | (refine wpList_store_row rfl 26 (.tmp 4) (.tmp 61) rfl (w.heap.size + 1) #[.int .i8 yk, .slice yA yks.length yc, .string ⟨y2.toArray⟩, .string ⟨y3.toArray⟩, .string ⟨y4.toArray⟩, .slice yM yms.length ymc, .string ⟨y6.toArray⟩, .string ⟨y7.toArray⟩, .bool yx] rfl rfl 26 zeroF9 HR3.out (by kernel_rfl) rfl (by simp [Value.oneCell']) ?_))
       (try simp only [Exit.inBlock, Exit.then])
       refine bodyPost_ret (results_cell_row rfl _ _ (w.heap.size + 1) 26 _ (0, 0) _ rfl (setRow_heap _ _ _ _ _ _ HR3.out) Tryz.underlying26 rfl (by kernel_rfl)) rfl ?_
       obtain ⟨g1, g2⟩ := HL.out.fin (cs := #[.int .i8 yk, .slice yA yks.length yc, .string ⟨y2.toArray⟩, .string ⟨y3.toArray⟩, .string ⟨y4.toArray⟩, .slice yM yms.length ymc, .string ⟨y6.toArray⟩, .string ⟨y7.toArray⟩, .bool yx]) HSS.out HF3.out HB3.out
       exact ⟨_, rfl, by rw [HJ.out]; exact g1, g2⟩
end Go.Proofs.YtdkfmckbeagenaaGreatDoor
