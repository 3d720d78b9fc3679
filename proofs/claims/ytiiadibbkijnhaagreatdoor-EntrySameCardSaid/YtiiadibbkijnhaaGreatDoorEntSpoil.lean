/-
  rosterlaw08.spoil: a lent entry is written over: what lies elsewhere lies still.
-/
import Derived.Test.YtiiadibbkijnhaaGreatDoorEntLent
import Derived.Deep.MidRow
namespace Go.Proofs.YtiiadibbkijnhaaGreatDoor
open Go.RowKit Go.FltLaw Go.EntLaw Go.Lib Go.RankLaw

/-- Nothing but the blocks from lo up to hi has turned. -/
structure Spared (lo hi : Nat) (w w' : World) : Prop where
  os : w'.os = w.os
  tape : w'.tape = w.tape
  output : w'.output = w.output
  size : w.heap.size ≤ w'.heap.size
  block : ∀ b, b < lo ∨ (hi ≤ b ∧ b < w.heap.size) → w'.heap[b]? = w.heap[b]?
theorem Spared.refl (lo hi : Nat) (w : World) : Spared lo hi w w := ⟨rfl, rfl, rfl, Nat.le_refl _, fun _ _ => rfl⟩
theorem Spared.trans {lo hi : Nat} {a b c : World} (h : Spared lo hi a b) (k : Spared lo hi b c) : Spared lo hi a c :=
  ⟨k.os.trans h.os, k.tape.trans h.tape, k.output.trans h.output, Nat.le_trans h.size k.size, fun i hi' => (k.block i (hi'.imp id fun ⟨h1, h2⟩ => ⟨h1, Nat.lt_of_lt_of_le h2 h.size⟩)).trans (h.block i hi')⟩
theorem Spared.below {lo hi : Nat} {a b : World} (h : Below a.heap.size a b) (hl : lo ≤ a.heap.size) : Spared lo hi a b :=
  ⟨h.os, h.tape, h.output, h.size, fun i hi' => h.block i (by omega)⟩
theorem Spared.grown {lo hi g : Nat} {a b : World} {rb : Option Nat} (h : a.grownBy b rb) (hl : lo ≤ a.heap.size) (hrb : ∀ k, rb = some k → lo ≤ k ∧ k < hi) (_ : g = g) : Spared lo hi a b :=
  ⟨h.os, h.tape, h.output, h.size, fun i hi' => h.block i (by omega) (fun e => by have := hrb i e.symm; omega)⟩

theorem own_shrink {w : World} {B g c n m : Nat} {e : TypeId} {size : Nat} {xs : List Value} (h : w.ownsRow B e size (.slice (some ⟨g, 0, none⟩) n c) n xs) (hm : m ≤ n) : w.ownsRow B e size (.slice (some ⟨g, 0, none⟩) m c) m (xs.take (m * size)) := by
  have hle : m * size ≤ n * size := Nat.mul_le_mul_right _ hm
  rcases h.2 with ⟨hv, _⟩ | ⟨g', cap, cur, hv, hb, hg, hc, hcm, hcs, ht⟩
  · simp at hv
  · simp only [Value.slice.injEq, Option.some.injEq, Addr.mk.injEq] at hv
    obtain ⟨⟨rfl, _⟩, _, rfl⟩ := hv
    refine ⟨by rw [List.length_take, h.1]; omega, .inr ⟨g, c, cur, rfl, hb, hg, by omega, hcm, hcs, ?_⟩⟩
    rw [← ht, List.take_take, Nat.min_eq_left hle]
theorem own_typ {w : World} {B g c n : Nat} {e : TypeId} {size : Nat} {xs : List Value} (h : w.ownsRow B e size (.slice (some ⟨g, 0, none⟩) n c) n xs) : ∃ cur, w.heap[g]? = some (.cells cur e (0, 0)) := by
  rcases h.2 with ⟨hv, _⟩ | ⟨g', cap, cur, hv, hb, hg, _⟩
  · simp at hv
  · simp only [Value.slice.injEq, Option.some.injEq, Addr.mk.injEq] at hv
    obtain ⟨⟨rfl, _⟩, _, rfl⟩ := hv
    exact ⟨cur, hg⟩
theorem own_apart {w : World} {B B' g g' c c' n n' : Nat} {e e' : TypeId} {size size' : Nat} {xs xs' : List Value} (h : w.ownsRow B e size (.slice (some ⟨g, 0, none⟩) n c) n xs) (h' : w.ownsRow B' e' size' (.slice (some ⟨g', 0, none⟩) n' c') n' xs') (hne : e ≠ e') : g ≠ g' := by
  intro eg
  subst eg
  obtain ⟨cur, h1⟩ := own_typ h
  obtain ⟨cur', h2⟩ := own_typ h'
  rw [h1] at h2
  simp only [Option.some.injEq, Obj.cells.injEq] at h2
  exact hne h2.2.1

/-- Where spoil stands ahead of attribute j. -/
structure Spoil8 (w wr : World) (lo hi gk n ck : Nat) (rs : List Rw) (j : Nat) : Prop where
  sp : Spared lo hi w wr
  box : wr.heap[w.heap.size]? = some (.cells #[.slice (some ⟨gk, 0, none⟩) n ck] 24 (0, 0))
  row : ∃ ys, wr.ownsRow lo 48 2 (.slice (some ⟨gk, 0, none⟩) (n + 1) ck) (n + 1) ys ∧ ∀ i r, j ≤ i → rs[i]? = some r → ys[i * 2 + 1]? = some (.slice (some ⟨r.g, 0, none⟩) r.a.vs.length r.c)
  rws : ∀ i r, j ≤ i → rs[i]? = some r → ∃ zs, wr.ownsRow lo 9 1 (.slice (some ⟨r.g, 0, none⟩) (r.a.vs.length + 2) r.c) (r.a.vs.length + 2) zs
/-- What does not turn. -/
structure Fix8 (w : World) (lo hi gk n : Nat) (rs : List Rw) : Prop where
  lo1 : lo ≤ gk
  gk1 : gk < hi
  hi1 : hi ≤ w.heap.size
  rg : ∀ r : Rw, r ∈ rs → lo ≤ r.g ∧ r.g < hi
  len : rs.length = n
  rise : ∀ (i j : Nat) (ri rj : Rw), rs[i]? = some ri → rs[j]? = some rj → i < j → ri.g < rj.g
section
variable {w wr : World} {lo hi gk n ck j : Nat} {rs : List Rw} {r : Rw}
theorem Spoil8.start {l : List Atr} (h : Lent8 w lo l gk ck rs) : Spoil8 w (w.alloc (.cells #[.slice (some ⟨gk, 0, none⟩) l.length ck] 24)) lo hi gk l.length ck rs 0 := by
  obtain ⟨r1, r2, r3, r4⟩ := row_form h.row
  refine ⟨Spared.below ((Below.refl _ _).alloc (Nat.le_refl _) _) (by omega), heap_alloc_new _ _, ⟨_, h.row.alloc _, fun i r _ hi => ?_⟩, fun i r _ hi => ⟨_, (h.rws.row i r hi).alloc _⟩⟩
  have hlt := (List.getElem?_eq_some_iff.1 hi).1
  rw [List.getElem?_append_left (by rw [rowCells_len]; omega)]
  exact (rowCells_at hi).2
theorem Spoil8.size (h : Spoil8 w wr lo hi gk n ck rs j) : w.heap.size + 1 ≤ wr.heap.size := by
  have := (Array.getElem?_eq_some_iff.1 h.box).1
  omega
/-- One of its values is written. -/
theorem Spoil8.write (h : Spoil8 w wr lo hi gk n ck rs j) (hf : Fix8 w lo hi gk n rs) (hr : rs[j]? = some r) (k : Nat) (u : Value) : Spoil8 w (wr.setCell ⟨r.g, k, none⟩ u) lo hi gk n ck rs j := by
  have hs := h.size
  have hrg := hf.rg r (List.mem_of_getElem? hr)
  have hh := hf.hi1
  have hsz : (wr.setCell ⟨r.g, k, none⟩ u).heap.size = wr.heap.size := by simp [World.setCell]
  have hst : ∀ b, b ≠ r.g → (wr.setCell ⟨r.g, k, none⟩ u).heap[b]? = wr.heap[b]? := fun b hb => Below.heap_setCell _ _ _ _ (by simpa using hb)
  obtain ⟨ys, hy, hy2⟩ := h.row
  obtain ⟨zs, hz⟩ := h.rws j r (Nat.le_refl _) hr
  have hg : wr.grownBy (wr.setCell ⟨r.g, k, none⟩ u) (some r.g) := ((hz.stored k u).2)
  refine ⟨h.sp.trans ⟨rfl, rfl, rfl, by omega, fun b hb => hst b (by omega)⟩, (hst _ (by omega)).trans h.box, ⟨ys, hy.kept hg (.inr fun e => ?_), hy2⟩, fun i q hi hq => ?_⟩
  · simp only [Value.ownBlock, Option.some.injEq] at e
    exact own_apart hy hz (by decide) e
  · obtain ⟨zs', hz'⟩ := h.rws i q hi hq
    by_cases e : q.g = r.g
    · rcases Nat.lt_or_ge j i with hlt | hge
      · have := hf.rise j i r q hr hq hlt; omega
      · have : i = j := by omega
        subst this
        rw [hr] at hq
        simp only [Option.some.injEq] at hq
        subst hq
        exact ⟨_, (hz.stored k u).1⟩
    · exact ⟨zs', hz'.kept hg (.inr fun e' => by simp only [Value.ownBlock, Option.some.injEq] at e'; exact e e')⟩
/-- An attribute is done. -/
theorem Spoil8.next {w4 : World} {o : Obj} (h : Spoil8 w wr lo hi gk n ck rs j) (hf : Fix8 w lo hi gk n rs) (hr : rs[j]? = some r) (hg : (wr.alloc o).grownBy w4 (some r.g)) (a b : Value) : Spoil8 w (w4.setCells gk (j * 2) [a, b]) lo hi gk n ck rs (j + 1) := by
  have hs := h.size
  have hrg := hf.rg r (List.mem_of_getElem? hr)
  have hh := hf.hi1
  have hlo := hf.lo1
  have hgk := hf.gk1
  have s4 := hg.size
  simp at s4
  have hlt : j < n := by rw [← hf.len]; exact (List.getElem?_eq_some_iff.1 hr).1
  obtain ⟨ys, hy, hy2⟩ := h.row
  obtain ⟨zs, hz⟩ := h.rws j r (Nat.le_refl _) hr
  have hne : gk ≠ r.g := own_apart hy hz (by decide)
  have hy4 := (hy.alloc o).kept hg (.inr fun e => by simp only [Value.ownBlock, Option.some.injEq] at e; exact hne e)
  have hst : ∀ b', b' ≠ gk → (w4.setCells gk (j * 2) [a, b]).heap[b']? = w4.heap[b']? := fun b' hb => by
    show ((w4.setCell ⟨gk, j * 2, none⟩ a).setCell ⟨gk, j * 2 + 1, none⟩ b).heap[b']? = _
    rw [Below.heap_setCell _ _ _ _ (by simpa using hb), Below.heap_setCell _ _ _ _ (by simpa using hb)]
  have hsz : (w4.setCells gk (j * 2) [a, b]).heap.size = w4.heap.size := by
    show ((w4.setCell ⟨gk, j * 2, none⟩ a).setCell ⟨gk, j * 2 + 1, none⟩ b).heap.size = _
    simp [World.setCell]
  have hsp4 : Spared lo hi w w4 := (h.sp.trans (Spared.below ((Below.refl _ _).alloc (Nat.le_refl _) o) (by omega))).trans (Spared.grown (g := 0) hg (by simp; omega) (fun k e => by simp only [Option.some.injEq] at e; omega) rfl)
  refine ⟨hsp4.trans ⟨rfl, rfl, rfl, by omega, fun b' hb => hst b' (by omega)⟩, ?_, ⟨_, ((hy4.stored (j * 2) a).1.stored (j * 2 + 1) b).1, fun i q hi hq => ?_⟩, fun i q hi hq => ?_⟩
  · rw [hst _ (by omega), hg.block _ (by simp; omega) (by simp; omega), Below.heap_alloc _ _ _ (by omega)]
    exact h.box
  · rw [List.getElem?_set_ne (by omega), List.getElem?_set_ne (by omega)]
    exact hy2 i q (by omega) hq
  · obtain ⟨zs', hz'⟩ := h.rws i q (by omega) hq
    have hlt2 := hf.rise j i r q hr hq (by omega)
    have hne2 : gk ≠ q.g := own_apart hy hz' (by decide)
    have h1 := (hz'.alloc o).kept hg (.inr fun e => by simp only [Value.ownBlock, Option.some.injEq] at e; omega)
    exact ⟨zs', h1.kept (row := some gk) ⟨rfl, rfl, rfl, by omega, fun k _ hk => hst k (fun e => hk (by rw [e]))⟩ (.inr fun e => by simp only [Value.ownBlock, Option.some.injEq] at e; exact hne2 e.symm)⟩
theorem Spoil8.thereA (h : Spoil8 w wr lo hi gk n ck rs j) (hj : j ≤ n) : wr.there gk (j * 2) 2 := by
  obtain ⟨ys, hy, _⟩ := h.row
  intro i hi
  refine ⟨?_, hy.frozenAt _⟩
  rw [hy.cellAt _ (by omega), List.getElem?_eq_getElem (by rw [hy.1]; omega)]
  rfl
theorem Spoil8.there4 {w4 : World} {o : Obj} (h : Spoil8 w wr lo hi gk n ck rs j) (hr : rs[j]? = some r) (hg : (wr.alloc o).grownBy w4 (some r.g)) (hj : j ≤ n) : w4.there gk (j * 2) 2 := by
  obtain ⟨ys, hy, _⟩ := h.row
  obtain ⟨zs, hz⟩ := h.rws j r (Nat.le_refl _) hr
  have hne : gk ≠ r.g := own_apart hy hz (by decide)
  have hy4 := (hy.alloc o).kept hg (.inr fun e => by simp only [Value.ownBlock, Option.some.injEq] at e; exact hne e)
  intro i hi
  refine ⟨?_, hy4.frozenAt _⟩
  rw [hy4.cellAt _ (by omega), List.getElem?_eq_getElem (by rw [hy4.1]; omega)]
  rfl
theorem Spoil8.box4 {w4 : World} {o : Obj} (h : Spoil8 w wr lo hi gk n ck rs j) (hf : Fix8 w lo hi gk n rs) (hr : rs[j]? = some r) (hg : (wr.alloc o).grownBy w4 (some r.g)) : w4.cell? ⟨w.heap.size, 0, none⟩ = some (.slice (some ⟨gk, 0, none⟩) n ck) := by
  have hs := h.size
  have hh := hf.hi1
  have hrg := hf.rg r (List.mem_of_getElem? hr)
  refine cell_of_one (t := 24) ?_
  rw [hg.block _ (by simp; omega) (by simp; omega), Below.heap_alloc _ _ _ (by omega)]
  exact h.box
theorem Spoil8.vals (h : Spoil8 w wr lo hi gk n ck rs j) (hr : rs[j]? = some r) : wr.cell? ⟨gk, j * 2 + 1, none⟩ = some (.slice (some ⟨r.g, 0, none⟩) r.a.vs.length r.c) := by
  obtain ⟨ys, hy, hy2⟩ := h.row
  exact row_cell hy (hy2 j r (Nat.le_refl _) hr)
theorem Spoil8.valAt (h : Spoil8 w wr lo hi gk n ck rs j) (hr : rs[j]? = some r) {k : Nat} (hk : k < r.a.vs.length) : (∃ z, wr.cell? ⟨r.g, k, none⟩ = some z) ∧ wr.frozen? ⟨r.g, k, none⟩ = false := by
  obtain ⟨zs, hz⟩ := h.rws j r (Nat.le_refl _) hr
  refine ⟨⟨zs[k]'(by rw [hz.1]; omega), ?_⟩, hz.frozenAt _⟩
  rw [hz.cellAt _ (by omega), List.getElem?_eq_getElem (by rw [hz.1]; omega)]
end

theorem Spared.fin {w wr w4 : World} {lo hi gk n : Nat} {rs : List Rw} {o : Obj} (h : Spared lo hi w wr) (hf : Fix8 w lo hi gk n rs) (hg : (wr.alloc o).grownBy w4 (some gk)) (hs : w.heap.size + 1 ≤ wr.heap.size) : Spared lo hi w w4 := by
  have h1 := hf.lo1
  have h2 := hf.gk1
  have h3 := hf.hi1
  exact (h.trans (Spared.below ((Below.refl _ _).alloc (Nat.le_refl _) o) (by omega))).trans (Spared.grown (g := 0) hg (by simp; omega) (fun k e => by simp only [Option.some.injEq] at e; omega) rfl)
theorem infoA2 : (Tryz.prog.info? 48).map (·.size) = some 2 := by kernel_rfl
set_option maxHeartbeats 3200000 in
set_option maxRecDepth 100000 in
theorem spoil_p (l : List Atr) (gk ck : Nat) (rs : List Rw) (lo hi : Nat) (w : World) (hL : Lent8 w lo l gk ck rs) (hF : Fix8 w lo hi gk l.length rs) (hn : l.length * 40 ≤ 140737488351232) :
    Calls Tryz.prog 22 #[ent (some ⟨gk, 0, none⟩) l.length ck] w fun e w' => (∃ n, e = .returned (.int .i64 n)) ∧ Spared lo hi w w' := by
  obtain ⟨r1, r2, r3, r4⟩ := row_form hL.row
  have HS := Lib.hid (Spoil8.start (hi := hi) hL)
  have HSM := Lib.hid (fun i r (h : rs[i]? = some r) => hL.rws.small r (List.mem_of_getElem? h))
  have HRF := Lib.hid (fun i r (h : rs[i]? = some r) => hL.rws.form h)
  have HF := Lib.hid hF
  have hlen := hF.len
  have hhi := hF.hi1
  unfold maxLen at r4
  clear hL hF
  obtain ⟨i0, hi', hz0, hz1, hz2⟩ := info_parts infoA
  obtain ⟨j0, hjT, hy0, hy1, hy2⟩ := info_parts infoT
  go_enter Tryz.func22, Tryz.ntmps22
  go_wp2_with fail
  go_loopw [3, 11] (fun m i wr => ∃ (z : Int) (j : Nat), j ≤ l.length ∧ m = .int .i64 z ∧ i = .int .i64 j ∧ Spoil8 w wr lo hi gk l.length ck rs j) (fun _ i _ => l.length - (RowKit.intOf i).toNat)
  case atStart => exact ⟨0, 0, Nat.zero_le _, rfl, rfl, HS.out⟩
  case round =>
    obtain ⟨z, j, hj, rfl, rfl, hP⟩ := hrel
    have HP := Lib.hid hP
    have c0 := cell_of_one hP.box
    have hsz := hP.size
    by_cases hlt : j < l.length
    · have hr := List.getElem?_eq_getElem (l := rs) (i := j) (by omega)
      generalize rs[j]'(by omega) = r at hr
      have c1 := hP.vals hr
      have hsm := HSM.out j r hr
      have hvn := hsm.vn
      obtain ⟨f1, f2, f3, f4⟩ := HRF.out j r hr
      simp at f3
      unfold maxLen at f4
      have HR := Lib.hid hr
      clear hP hsm hr
      go_wp2_with fail
      go_loopw [21] (fun i wr => ∃ (k : Nat), k ≤ r.a.vs.length ∧ i = .int .i64 k ∧ Spoil8 w wr lo hi gk l.length ck rs j) (fun i _ => r.a.vs.length - (RowKit.intOf i).toNat)
      case atStart => exact ⟨0, Nat.zero_le _, rfl, HP.out⟩
      case round =>
        clear c0 c1 HP
        obtain ⟨k, hk, rfl, hP⟩ := hrel
        have HP := Lib.hid hP
        have c0 := cell_of_one hP.box
        have c1 := hP.vals HR.out
        have hsz := hP.size
        by_cases hklt : k < r.a.vs.length
        · obtain ⟨⟨z2, v1⟩, v2⟩ := hP.valAt HR.out hklt
          clear hP
          go_wp2_with fail
          go_round
          case rel => exact ⟨k + 1, by omega, by go_num, HP.out.write HF.out HR.out k _⟩
          case measure => simp [RowKit.intOf]; omega
        · have ek : k = r.a.vs.length := by omega
          subst ek
          obtain ⟨zs, hz⟩ := hP.rws j r (Nat.le_refl _) HR.out
          have hzs := own_shrink (m := r.a.vs.length) hz (by omega)
          have HZ := Lib.hid hzs
          clear hP hz hzs
          go_upto_region 11 with (at_builtin; refine wpList_append_lies _ rfl (.tmp 38) (.tmp 39) _ rfl lo 9 j0 _ 1 16 Tryz.underlying46 hjT hy0 hy1 hy2 rfl (by decide) (.slice (some ⟨r.g, 0, none⟩) r.a.vs.length r.c) r.a.vs.length (zs.take (r.a.vs.length * 1)) rfl (HZ.out.alloc _) ⟨wr.heap.size, 0, none⟩ 3 3 [.string ⟨#[103, 114, 111, 119, 110]⟩, .string ⟨#[103, 114, 111, 119, 110]⟩, .string ⟨#[103, 114, 111, 119, 110]⟩] rfl rfl (news_new wr #[.string ⟨#[103, 114, 111, 119, 110]⟩, .string ⟨#[103, 114, 111, 119, 110]⟩, .string ⟨#[103, 114, 111, 119, 110]⟩] _ rfl) (by simp [Value.oneCell']) (by decide) (by unfold maxLen; omega) (by omega) (by simp; omega) _ rfl ?_; intro g4 c4 w4 ho4 hg4 hat4 hlt4; have HG4 := Lib.hid hg4; have HTH := Lib.hid (HP.out.there4 HR.out hg4 hj); have d0 := HP.out.box4 HF.out HR.out hg4; clear ho4 hg4 hat4)
          have hinf := infoA2
          obtain ⟨w5, hw5⟩ : ∃ w5, w4.setCells gk (j * 2) (#[.string ⟨#[115, 112, 111, 105, 108, 116]⟩, .slice none 0 0] : Array Value).toList = w5 := ⟨_, rfl⟩
          go_wp2_with (refine wpList_store_mid rfl 48 (.tmp 49) (.tmp 48) rfl gk (j * 2) #[.string ⟨#[115, 112, 111, 105, 108, 116]⟩, .slice none 0 0] rfl rfl HTH.out hinf (by simp [Value.oneCell']) ?_; rw [hw5])
          go_round
          case rel => exact ⟨_, j + 1, by omega, rfl, by go_num, hw5 ▸ HP.out.next HF.out HR.out HG4.out _ _⟩
          case measure => simp [RowKit.intOf]; omega
    · have ej : j = l.length := by omega
      subst ej
      obtain ⟨ys, hy, _⟩ := hP.row
      have hys := own_shrink (m := l.length) hy (by omega)
      have HY := Lib.hid hys
      have HSP := Lib.hid hP.sp
      clear hP hy hys
      go_wp2_with (at_builtin; refine wpList_append_lies _ rfl (.tmp 52) (.tmp 55) _ rfl lo 48 i0 _ 2 40 Tryz.underlying22 hi' hz0 hz1 hz2 rfl (by decide) (.slice (some ⟨gk, 0, none⟩) l.length ck) l.length (ys.take (l.length * 2)) rfl (HY.out.alloc _) ⟨wr.heap.size, 0, none⟩ 2 2 [.string ⟨#[103, 114, 111, 119, 110]⟩, .slice none 0 0, .string ⟨#[103, 114, 111, 119, 110]⟩, .slice none 0 0] rfl rfl (news_new wr #[.string ⟨#[103, 114, 111, 119, 110]⟩, .slice none 0 0, .string ⟨#[103, 114, 111, 119, 110]⟩, .slice none 0 0] _ rfl) (by simp [Value.oneCell']) (by decide) (by unfold maxLen; omega) (by omega) (by simp; omega) _ rfl ?_; intro g4 c4 w4 ho4 hg4 hat4 hlt4; have HG4 := Lib.hid hg4; clear ho4 hg4 hat4)
      go_ret
      exact ⟨⟨_, rfl⟩, HSP.out.fin HF.out HG4.out hsz⟩
end Go.Proofs.YtiiadibbkijnhaaGreatDoor
