/-
  rosterlaw08.apart: what its loops keep.
  rosterlaw08.apart: the lists grown; an append that says what becomes of the old row.
-/
import Derived.Test.YtiiadibbkijnhaaGreatDoorEntTwin
import Derived.Test.YtiiadibbkijnhaaGreatDoorEntSpoil
import Derived.Test.YtiiadibbkijnhaaGreatDoorQS2
import Derived.Deep.DeepAppendWide
namespace Go.Proofs.YtiiadibbkijnhaaGreatDoor
open Go.RowKit Go.FltLaw Go.EntLaw Go.Lib Go.RankLaw

/-- A list of values. -/
def sl (r : Rw) : Value := .slice (some ⟨r.g, 0, none⟩) r.a.vs.length r.c
def mrk (i : Nat) : Value := .string (marks i)
theorem infoV : (Tryz.prog.info? 46).map (fun i => (i.zero, i.size, i.bytes)) = some (some (.slice none 0 0), 1, 24) := by kernel_rfl

/-- Two entries' lists of values, one behind the other. -/
theorem rws_two {w : World} {lo lo' : Nat} {rs rs' : List Rw} (h : Rws w 9 lo [] rs) (h' : Rws w 9 lo' [] rs') (hl : lo ≤ lo') (hr : ∀ r : Rw, r ∈ rs → r.g < lo') : Rws w 9 lo [] (rs ++ rs') := by
  refine ⟨fun i r hi => ?_, fun r hr => ?_, fun i j ri rj hi hj hlt => ?_⟩
  · rcases Nat.lt_or_ge i rs.length with hlt | hge
    · rw [List.getElem?_append_left hlt] at hi
      exact h.row i r hi
    · rw [List.getElem?_append_right hge] at hi
      exact own_mono (h'.row _ r hi) hl
  · rcases List.mem_append.1 hr with hr | hr
    · exact h.small r hr
    · exact h'.small r hr
  · rcases Nat.lt_or_ge j rs.length with hj2 | hj2
    · rw [List.getElem?_append_left hj2] at hj
      rw [List.getElem?_append_left (by omega)] at hi
      exact h.rise i j ri rj hi hj hlt
    · rw [List.getElem?_append_right hj2] at hj
      rcases Nat.lt_or_ge i rs.length with hi2 | hi2
      · rw [List.getElem?_append_left hi2] at hi
        have := hr ri (List.mem_of_getElem? hi)
        have := (h'.form hj).1
        omega
      · rw [List.getElem?_append_right hi2] at hi
        exact h'.rise _ _ ri rj hi hj (by omega)

/-- Ahead of place k of list i of R all is marked. -/
structure Mark8 (w wr : World) (lo base : Nat) (R : List Rw) (kv : Value) (i k : Nat) : Prop where
  below : Below lo w wr
  lrow : wr.ownsRow base 46 1 kv R.length (R.map sl)
  rows : ∀ t r, R[t]? = some r → ∃ zs, wr.ownsRow lo 9 1 (sl r) r.a.vs.length zs ∧ ∀ q, (t < i ∨ (t = i ∧ q < k)) → q < r.a.vs.length → zs[q]? = some (mrk t)
section
variable {w wr : World} {lo base : Nat} {R : List Rw} {kv : Value} {i k : Nat} {r : Rw}
theorem Mark8.start (hb : Below lo w wr) (hl : wr.ownsRow base 46 1 kv R.length (R.map sl)) (hr : Rws wr 9 lo [] R) : Mark8 w wr lo base R kv 0 0 :=
  ⟨hb, hl, fun t r ht => ⟨_, hr.row t r ht, fun q hq => by omega⟩⟩
theorem Mark8.step (h : Mark8 w wr lo base R kv i k) (hrise : ∀ (i j : Nat) (ri rj : Rw), R[i]? = some ri → R[j]? = some rj → i < j → ri.g < rj.g) (hr : R[i]? = some r) (_hlo : lo ≤ wr.heap.size) (hk : k < r.a.vs.length) : Mark8 w (wr.setCell ⟨r.g, k, none⟩ (mrk i)) lo base R kv i (k + 1) := by
  obtain ⟨zs, hz, hm⟩ := h.rows i r hr
  obtain ⟨f1, f2, f3, f4⟩ := row_form hz
  have hg := (hz.stored k (mrk i)).2
  refine ⟨h.below.setCell (p := ⟨r.g, k, none⟩) f1 _, h.lrow.kept hg (.inr fun e => ?_), fun t q ht => ?_⟩
  · rcases h.lrow.2 with ⟨hv, _⟩ | ⟨g', cap, cur, hv, _, hg', _⟩
    · rw [hv] at e; cases e
    · rw [hv] at e
      simp only [Value.ownBlock, Option.some.injEq] at e
      obtain ⟨cur', hc'⟩ := own_typ hz
      rw [e, hc'] at hg'
      simp at hg'
  · by_cases e : t = i
    · subst e
      rw [hr] at ht
      simp only [Option.some.injEq] at ht
      subst ht
      refine ⟨_, (hz.stored k (mrk t)).1, fun q' hq' hlt => ?_⟩
      by_cases e2 : q' = k
      · subst e2
        rw [List.getElem?_set_self (by rw [hz.1]; omega)]
      · rw [List.getElem?_set_ne (by omega)]
        exact hm q' (by omega) hlt
    · obtain ⟨zs', hz', hm'⟩ := h.rows t q ht
      have hne : q.g ≠ r.g := by
        rcases Nat.lt_or_gt_of_ne e with hlt | hlt
        · have := hrise t i q r ht hr hlt; omega
        · have := hrise i t r q hr ht hlt; omega
      exact ⟨zs', hz'.kept hg (.inr fun e' => by simp only [sl, Value.ownBlock, Option.some.injEq] at e'; exact hne e'), fun q' hq' => hm' q' (by omega)⟩
theorem Mark8.next (h : Mark8 w wr lo base R kv i k) (hr : R[i]? = some r) (hk : r.a.vs.length ≤ k) : Mark8 w wr lo base R kv (i + 1) 0 :=
  ⟨h.below, h.lrow, fun t q ht => by
    obtain ⟨zs, hz, hm⟩ := h.rows t q ht
    refine ⟨zs, hz, fun q' hq' hlt => hm q' ?_ hlt⟩
    by_cases e : t = i
    · subst e
      rw [hr] at ht
      simp only [Option.some.injEq] at ht
      subst ht
      omega
    · omega⟩
theorem Mark8.drew (h : Mark8 w wr lo base R kv i k) (n : Nat) : Mark8 w (wr.drewN n) lo base R kv i k :=
  ⟨below_d8 h.below n, h.lrow, h.rows⟩
/-- All is marked: each list's cells. -/
theorem Mark8.all (h : Mark8 w wr lo base R kv R.length k) {t : Nat} (ht : R[t]? = some r) : wr.ownsRow lo 9 1 (sl r) r.a.vs.length (List.replicate r.a.vs.length (mrk t)) := by
  obtain ⟨zs, hz, hm⟩ := h.rows t r ht
  have hlt : t < R.length := (List.getElem?_eq_some_iff.1 ht).1
  have e : zs = List.replicate r.a.vs.length (mrk t) := by
    refine List.ext_getElem? fun q => ?_
    rcases Nat.lt_or_ge q r.a.vs.length with hq | hq
    · rw [hm q (.inl hlt) hq, List.getElem?_replicate, if_pos hq]
    · rw [List.getElem?_eq_none (by rw [hz.1]; omega), List.getElem?_eq_none (by simp; omega)]
  rw [← e]
  exact hz
end
end Go.Proofs.YtiiadibbkijnhaaGreatDoor

namespace Go.Proofs.YtiiadibbkijnhaaGreatDoor
open Go.RowKit Go.FltLaw Go.EntLaw Go.Lib Go.RankLaw

section
variable {P : Program} {w : World}
/-- append onto a row of one's own: in its place, or in a new one, the old one as it was. -/
theorem run_append_two (base : Nat) (t ty e : TypeId) (i : TypeInfo) (z : Value) (size bytes : Nat) (ht : P.underlying t = some (.slice e)) (hi : P.info? e = some i) (hz : i.zero = some z)
    (hsize : i.size = size) (hby : i.bytes = bytes) (hzs : z.cells.size = size) (g cap n : Nat) (xs : List Value) (hown : w.ownsRow base e size (.slice (some ⟨g, 0, none⟩) n cap) n xs)
    (a : Addr) (m c : Nat) (news : List Value) (hl : news.length = m * size) (hnews : ∀ j u, news[j]? = some u → w.cell? (a.add j) = some u) (h1 : ∀ u ∈ news, u.oneCell' = true)
    (h63 : n + m ≤ maxLen) (hbytes : (n + m) * bytes ≤ 140737488355328) (hbase : base ≤ w.heap.size) :
    ∃ g' cap' w', (Builtin.append_ #[t, t] ty #[.slice (some ⟨g, 0, none⟩) n cap, .slice (some a) m c]).run P w = .ok (.slice (some ⟨g', 0, none⟩) (n + m) cap') w' ∧ w'.ownsRow base e size (.slice (some ⟨g', 0, none⟩) (n + m) cap') (n + m) (xs ++ news) ∧
      ((g' = g ∧ w.grownBy w' (some g)) ∨ (g' = w.heap.size ∧ w.grownBy w' none)) := by
  subst hsize
  subst hby
  have hsmall : n + m ≤ 9223372036854775807 := by simp only [maxLen] at h63; omega
  have hlen : (xs ++ news).length = (n + m) * i.size := by rw [List.length_append, hown.1, hl, Nat.add_mul]
  rcases hown.2 with ⟨hv, _⟩ | ⟨g', cap', cur, hv, hbg, hg, hnc, hcm, hcs, htake⟩
  · simp at hv
  · simp only [Value.slice.injEq, Option.some.injEq, Addr.mk.injEq] at hv
    obtain ⟨⟨rfl, _⟩, _, rfl⟩ := hv
    by_cases hroom : n + m ≤ cap
    · have hfit : n * i.size + news.length ≤ cur.size := by rw [hl, hcs, ← Nat.add_mul]; exact Nat.mul_le_mul_right _ hroom
      have hr := run_append_room (P := P) w t ty e i ht hi g n cap cur hg a m c news hl hnews h1 hroom hfit
      refine ⟨_, _, _, hr, ⟨hlen, .inr ⟨g, cap, _, rfl, hbg, setRow_heap w g cur _ e _ hg, hroom, hcm, ?_, ?_⟩⟩, .inl ⟨rfl, rfl, rfl, rfl, by simp, fun k _ hk => setRow_other w g k _ (fun e => hk (by rw [e]))⟩⟩
      · simp only [List.size_toArray, List.length_append, List.length_take, List.length_drop, Array.length_toList]
        omega
      · rw [htake, ← hlen]
        exact List.take_left
    · have holds : ∀ j u, xs[j]? = some u → w.cell? ((⟨g, 0, none⟩ : Addr).add j) = some u := hown.cells (g := g) rfl
      have hr := run_append_grow (P := P) w t ty e i z ht hi hz ⟨g, 0, none⟩ n cap xs hown.1 holds a m c news hl hnews (by omega) (by omega) (growslice_fits (by omega) hbytes)
      have hge := grownCap_ge w (n + m) cap e
      have hcm' : grownCap w (n + m) cap e ≤ maxLen := grownCap_le_maxLen w (n + m) cap e h63
      refine ⟨_, _, _, hr, ⟨hlen, .inr ⟨w.heap.size, _, _, rfl, hbase, heap_alloc_new w.drew _, hge, hcm', ?_, ?_⟩⟩, .inr ⟨rfl, rfl, rfl, rfl, by simp, fun k hk _ => Below.heap_alloc w.drew _ k hk⟩⟩
      · simp only [Array.size_append, List.size_toArray, size_zeroCells, hzs, hown.1, hl, ← Nat.add_mul]
        congr 1
        omega
      · simp only [Array.toList_append, List.append_assoc]
        rw [← List.append_assoc, ← hlen]
        exact List.take_left
theorem wpList_append_two {ops : Array Oper} {rest : List Oper} {o : Oper} {a : Act} {Q : Exit → Act → World → Prop} (hgd : o.guard = none) (s x : Operand) (t : TypeId)
    (ho : o.op = .call { callee := .builtin .append, args := #[s, x], argTypes := #[t, t] })
    (base : Nat) (e : TypeId) (i : TypeInfo) (z : Value) (size bytes : Nat) (ht : P.underlying t = some (.slice e)) (hi : P.info? e = some i) (hz : i.zero = some z)
    (hsize : i.size = size) (hby : i.bytes = bytes) (hzs : z.cells.size = size) (g cap n : Nat) (xs : List Value) (hs : a.eval s = .slice (some ⟨g, 0, none⟩) n cap) (hown : w.ownsRow base e size (.slice (some ⟨g, 0, none⟩) n cap) n xs)
    (ad : Addr) (m c : Nat) (news : List Value) (hx : a.eval x = .slice (some ad) m c) (hl : news.length = m * size) (hnews : ∀ j u, news[j]? = some u → w.cell? (ad.add j) = some u) (h1 : ∀ u ∈ news, u.oneCell' = true)
    (h63 : n + m ≤ maxLen) (hbytes : (n + m) * bytes ≤ 140737488355328) (hbase : base ≤ w.heap.size)
    (h : ∀ g' cap' w', w'.ownsRow base e size (.slice (some ⟨g', 0, none⟩) (n + m) cap') (n + m) (xs ++ news) → ((g' = g ∧ w.grownBy w' (some g)) ∨ (g' = w.heap.size ∧ w.grownBy w' none)) → wpList P ops Q rest (a.put o.dst (.slice (some ⟨g', 0, none⟩) (n + m) cap')) w') : wpList P ops Q (o :: rest) a w := by
  refine wpList_plain hgd fun K hK => ?_
  obtain ⟨g', cap', w', hr, h2, h3⟩ := run_append_two (P := P) base t o.type e i z size bytes ht hi hz hsize hby hzs g cap n xs hown ad m c news hl hnews h1 h63 hbytes hbase
  unfold Oper.wp execOp
  simp only [ho, resolve, invoke, builtin, Sem.run_bind, Sem.run_pure, Result.andThen_ok, List.map_toArray, List.map_cons, List.map_nil, hs, hx, hr]
  exact hK _ _ (h g' cap' w' h2 h3)
end

/-- The lists ahead of i are grown, each with its own marks. -/
structure Grow8 (w wr : World) (lo base b2 : Nat) (R : List Rw) (kv : Value) (i : Nat) (mv : Value) (mvs : List Value) : Prop where
  below : Below lo w wr
  lrow : wr.ownsRow base 46 1 kv R.length (R.map sl)
  mrow : wr.ownsRow b2 46 1 mv i mvs
  todo : ∀ t r, i ≤ t → R[t]? = some r → wr.ownsRow lo 9 1 (sl r) r.a.vs.length (List.replicate r.a.vs.length (mrk t))
  old : ∀ t r, t < i → R[t]? = some r → (∃ cur, wr.heap[r.g]? = some (.cells cur 9 (0, 0))) ∧ ∀ q, q < r.a.vs.length → wr.cell? ⟨r.g, q, none⟩ = some (mrk t)
  new : ∀ t r, t < i → R[t]? = some r → ∃ b c, mvs[t]? = some (.slice (some ⟨b, 0, none⟩) (r.a.vs.length + 20) c) ∧ (∃ cur, wr.heap[b]? = some (.cells cur 9 (0, 0))) ∧ (b = r.g ∨ w.heap.size ≤ b) ∧ ∀ q, q < r.a.vs.length + 20 → wr.cell? ⟨b, q, none⟩ = some (mrk t)
/-- List i's growing: q marks have been put behind it; wi: the world where it began. -/
structure In8 (wi wr : World) (lo : Nat) (r : Rw) (i q : Nat) (v : Value) : Prop where
  far : wi.grownBy wr (some r.g)
  cur : ∃ b c, v = .slice (some ⟨b, 0, none⟩) (r.a.vs.length + q) c ∧ wr.ownsRow lo 9 1 (.slice (some ⟨b, 0, none⟩) (r.a.vs.length + q) c) (r.a.vs.length + q) (List.replicate (r.a.vs.length + q) (mrk i)) ∧ (b = r.g ∨ wi.heap.size ≤ b)
  li : ∀ q', q' < r.a.vs.length → wr.cell? ⟨r.g, q', none⟩ = some (mrk i)
  liT : ∃ cur, wr.heap[r.g]? = some (.cells cur 9 (0, 0))
/-- What holds of all lists wherever they are read. -/
structure Lists8 (w : World) (lo b2 : Nat) (R : List Rw) (kv : Value) : Prop where
  rise : ∀ (i j : Nat) (ri rj : Rw), R[i]? = some ri → R[j]? = some rj → i < j → ri.g < rj.g
  rg : ∀ (i : Nat) (r : Rw), R[i]? = some r → lo ≤ r.g ∧ r.g < w.heap.size
  kb : ∀ b, kv.ownBlock = some b → b < b2
section
variable {w wi wr w4 : World} {lo base b2 i q : Nat} {R : List Rw} {kv mv v : Value} {mvs : List Value} {r : Rw}
theorem typ_ne {w : World} {b b' : Nat} {cur cur' : Array Value} (h : w.heap[b]? = some (.cells cur 9 (0, 0))) (h' : w.heap[b']? = some (.cells cur' 46 (0, 0))) : b ≠ b' := by
  intro e
  subst e
  rw [h] at h'
  simp at h'
theorem own_blk {w : World} {B b n : Nat} {e : TypeId} {v : Value} {xs : List Value} (h : w.ownsRow B e 1 v n xs) (hb : v.ownBlock = some b) : ∃ cur, w.heap[b]? = some (.cells cur e (0, 0)) := by
  obtain ⟨c, rfl⟩ := own_some h hb
  exact own_typ h
/-- A row whose block lies as it lay. -/
theorem own_one {w w' : World} {B g n c : Nat} {e : TypeId} {xs : List Value} (h : w.ownsRow B e 1 (.slice (some ⟨g, 0, none⟩) n c) n xs) (hk : w'.heap[g]? = w.heap[g]?) : w'.ownsRow B e 1 (.slice (some ⟨g, 0, none⟩) n c) n xs := by
  refine ⟨h.1, ?_⟩
  rcases h.2 with ⟨hv, _⟩ | ⟨g', cap, cur, hv, hb, hg, r⟩
  · simp at hv
  · simp only [Value.slice.injEq, Option.some.injEq, Addr.mk.injEq] at hv
    obtain ⟨⟨rfl, _⟩, _, rfl⟩ := hv
    exact .inr ⟨g, c, cur, rfl, hb, by rw [hk]; exact hg, r⟩
theorem In8.start (h : Grow8 w wi lo base b2 R kv i mv mvs) (hr : R[i]? = some r) : In8 wi wi lo r i 0 (sl r) := by
  have ho := h.todo i r (Nat.le_refl _) hr
  refine ⟨⟨rfl, rfl, rfl, Nat.le_refl _, fun _ _ _ => rfl⟩, ⟨r.g, r.c, rfl, ho, .inl rfl⟩, fun q' hq' => row_cell ho (by simp [hq']), own_typ ho⟩
theorem Grow8.start {wr : World} (hb : Below lo w wr) (hl : wr.ownsRow base 46 1 kv R.length (R.map sl)) (ht : ∀ t r, R[t]? = some r → wr.ownsRow lo 9 1 (sl r) r.a.vs.length (List.replicate r.a.vs.length (mrk t))) : Grow8 w wr lo base b2 R kv 0 (.slice none 0 0) [] :=
  ⟨hb, hl, World.ownsRow_nil _ _ _ _, fun t r _ h => ht t r h, fun t r h => by omega, fun t r h => by omega⟩
theorem Grow8.drew (h : Grow8 w wr lo base b2 R kv i mv mvs) (n : Nat) : Grow8 w (wr.drewN n) lo base b2 R kv i mv mvs := ⟨below_d8 h.below n, h.lrow, h.mrow, h.todo, h.old, h.new⟩
theorem In8.step {o : Obj} {g b c cap : Nat} (h : In8 wi wr lo r i q v) (hrg : r.g < wi.heap.size) (_hlo : lo ≤ wi.heap.size) (hv : v = .slice (some ⟨b, 0, none⟩) (r.a.vs.length + q) c) (ho : w4.ownsRow lo 9 1 (.slice (some ⟨g, 0, none⟩) (r.a.vs.length + q + 1) cap) (r.a.vs.length + q + 1) (List.replicate (r.a.vs.length + q) (mrk i) ++ [mrk i]))
    (hg : (g = b ∧ (wr.alloc o).grownBy w4 (some b)) ∨ (g = (wr.alloc o).heap.size ∧ (wr.alloc o).grownBy w4 none)) : In8 wi w4 lo r i (q + 1) (.slice (some ⟨g, 0, none⟩) (r.a.vs.length + (q + 1)) cap) := by
  have hs := h.far.size
  obtain ⟨b', c', hv', ho', hb'⟩ := h.cur
  rw [hv] at hv'
  simp only [Value.slice.injEq, Option.some.injEq, Addr.mk.injEq] at hv'
  obtain ⟨⟨rfl, _⟩, _, rfl⟩ := hv'
  have hrep : List.replicate (r.a.vs.length + q) (mrk i) ++ [mrk i] = List.replicate (r.a.vs.length + (q + 1)) (mrk i) := by
    rw [show r.a.vs.length + (q + 1) = r.a.vs.length + q + 1 by omega, List.replicate_succ']
  rw [hrep, show r.a.vs.length + q + 1 = r.a.vs.length + (q + 1) by omega] at ho
  have hbw : b < wr.heap.size := (row_form ho').2.1
  rcases hg with ⟨rfl, hg⟩ | ⟨rfl, hg⟩
  · have s4 := hg.size
    simp at s4
    refine ⟨⟨hg.os.trans h.far.os, hg.tape.trans h.far.tape, hg.output.trans h.far.output, by omega, fun k hk hne => ?_⟩, ⟨g, cap, rfl, ho, hb'⟩, ?_, ?_⟩
    · have hkb : some k ≠ some g := by
        intro e
        simp only [Option.some.injEq] at e
        rcases hb' with hb' | hb'
        · exact hne (by rw [e, hb'])
        · omega
      rw [hg.block k (by simp; omega) hkb, Below.heap_alloc _ _ _ (by omega)]
      exact h.far.block k hk hne
    · intro q' hq'
      rcases hb' with rfl | hb'
      · exact row_cell ho (by rw [List.getElem?_replicate, if_pos (by omega)])
      · refine (World.cell?_of_block ?_).trans (h.li q' hq')
        show w4.heap[r.g]? = wr.heap[r.g]?
        rw [hg.block r.g (by simp; omega) (by simp; omega), Below.heap_alloc _ _ _ (by omega)]
    · rcases hb' with rfl | hb'
      · exact own_typ ho
      · rw [hg.block r.g (by simp; omega) (by simp; omega), Below.heap_alloc _ _ _ (by omega)]
        exact h.liT
  · have s4 := hg.size
    simp at s4
    have hk : ∀ k, k < wr.heap.size → w4.heap[k]? = wr.heap[k]? := fun k hk => by rw [hg.block k (by simp; omega) (by simp), Below.heap_alloc _ _ _ hk]
    refine ⟨⟨hg.os.trans h.far.os, hg.tape.trans h.far.tape, hg.output.trans h.far.output, by omega, fun k hk' hne => ?_⟩, ⟨_, cap, rfl, ho, .inr (by simp; omega)⟩, fun q' hq' => (World.cell?_of_block (hk r.g (by omega))).trans (h.li q' hq'), ?_⟩
    · rw [hk k (by omega)]
      exact h.far.block k hk' hne
    · rw [hk r.g (by omega)]
      exact h.liT
theorem In8.mrow (hin : In8 wi wr lo r i q v) (h : Grow8 w wi lo base b2 R kv i mv mvs) (hr : R[i]? = some r) : wr.ownsRow b2 46 1 mv i mvs := by
  refine h.mrow.kept hin.far ?_
  cases hk : mv.ownBlock with
  | none => exact .inl rfl
  | some b =>
    refine .inr fun e => ?_
    simp only [Option.some.injEq] at e
    obtain ⟨curK, hcK⟩ := own_blk h.mrow hk
    obtain ⟨c1, hc1⟩ := own_typ (h.todo i r (Nat.le_refl _) hr)
    exact typ_ne hc1 hcK e.symm
/-- The grown list is put behind the others. -/
theorem Grow8.next {o : Obj} {mv' : Value} (h : Grow8 w wi lo base b2 R kv i mv mvs) (hl : Lists8 w lo b2 R kv) (hws : w.heap.size ≤ wi.heap.size) (_hlo : lo ≤ w.heap.size) (hb2 : b2 ≤ wi.heap.size) (hlb : lo ≤ b2) (hr : R[i]? = some r) (hin : In8 wi wr lo r i 20 v) (hg : (wr.alloc o).grownBy w4 mv.ownBlock)
    (hm : w4.ownsRow b2 46 1 mv' (i + 1) (mvs ++ [v])) : Grow8 w w4 lo base b2 R kv (i + 1) mv' (mvs ++ [v]) := by
  have hs := hin.far.size
  have s4 := hg.size
  simp at s4
  have hrg := hl.rg i r hr
  obtain ⟨curR, hcR⟩ := hin.liT
  have hcRi := own_typ (h.todo i r (Nat.le_refl _) hr)
  -- what lies in wi, in a block that is not r's, of texts
  have txtKeep : ∀ b, b < wi.heap.size → b ≠ r.g → (∃ cur, wi.heap[b]? = some (.cells cur 9 (0, 0))) → w4.heap[b]? = wi.heap[b]? := fun b hb hne ⟨cur, hc⟩ => by
    have e1 : (wr.alloc o).heap[b]? = wi.heap[b]? := by rw [Below.heap_alloc _ _ _ (by omega)]; exact hin.far.block b hb (by simpa using hne)
    rw [hg.block b (by simp; omega) ?_, e1]
    intro e
    obtain ⟨curM, hcM⟩ := own_blk h.mrow e.symm
    exact typ_ne hc hcM rfl
  have lenm : mvs.length = i := by simpa using h.mrow.1
  -- r's own blocks in w4
  have newKeep : ∀ b, b < wr.heap.size → (∃ cur, wr.heap[b]? = some (.cells cur 9 (0, 0))) → w4.heap[b]? = wr.heap[b]? := fun b hb ⟨cur, hc⟩ => by
    rw [hg.block b (by simp; omega) ?_, Below.heap_alloc _ _ _ hb]
    intro e
    obtain ⟨curM, hcM⟩ := own_blk h.mrow e.symm
    have hmb := (h.mrow.lt b e.symm).2
    by_cases hbr : b = r.g
    · subst hbr
      obtain ⟨c1, hc1⟩ := hcRi
      exact typ_ne hc1 hcM rfl
    · rw [hin.far.block b hmb (by simpa using hbr)] at hc
      exact typ_ne hc hcM rfl
  have rlt : ∀ t q, R[t]? = some q → t ≠ i → q.g ≠ r.g := fun t q ht hne e => by
    rcases Nat.lt_or_gt_of_ne hne with hlt | hlt
    · have := hl.rise t i q r ht hr hlt; omega
    · have := hl.rise i t r q hr ht hlt; omega
  refine ⟨?_, ?_, hm, fun t q ht hq => ?_, fun t q ht hq => ?_, fun t q ht hq => ?_⟩
  · refine h.below.trans ⟨hg.os.trans hin.far.os, hg.tape.trans hin.far.tape, hg.output.trans hin.far.output, by omega, fun b hb => ?_⟩
    rw [hg.block b (by simp; omega) (fun e => by have := (h.mrow.lt b e.symm).1; omega), Below.heap_alloc _ _ _ (by omega)]
    exact hin.far.block b (by omega) (by simp; omega)
  · have h1 : wr.ownsRow base 46 1 kv R.length (R.map sl) := by
      refine h.lrow.kept hin.far ?_
      cases hk : kv.ownBlock with
      | none => exact .inl rfl
      | some b =>
        refine .inr fun e => ?_
        simp only [Option.some.injEq] at e
        obtain ⟨curK, hcK⟩ := own_blk h.lrow hk
        obtain ⟨c1, hc1⟩ := hcRi
        exact typ_ne hc1 hcK e.symm
    refine (h1.alloc o).kept hg ?_
    cases hk : kv.ownBlock with
    | none => exact .inl rfl
    | some b =>
      refine .inr fun e => ?_
      have := hl.kb b hk
      have := (h.mrow.lt b e.symm).1
      omega
  · have ho := h.todo t q (by omega) hq
    have hqg := hl.rg t q hq
    refine own_one ho ?_
    exact txtKeep q.g (by omega) (rlt t q hq (by omega)) (own_typ ho)
  · by_cases e : t = i
    · subst e
      rw [hr] at hq
      simp only [Option.some.injEq] at hq
      subst hq
      have hk := newKeep r.g (by omega) hin.liT
      exact ⟨by rw [hk]; exact hin.liT, fun q' hq' => (World.cell?_of_block hk).trans (hin.li q' hq')⟩
    · obtain ⟨hT, hc⟩ := h.old t q (by omega) hq
      have hqg := hl.rg t q hq
      have hk := txtKeep q.g (by omega) (rlt t q hq e) hT
      exact ⟨by rw [hk]; exact hT, fun q' hq' => (World.cell?_of_block hk).trans (hc q' hq')⟩
  · by_cases e : t = i
    · subst e
      rw [hr] at hq
      simp only [Option.some.injEq] at hq
      subst hq
      obtain ⟨b, c, hv, ho, hb⟩ := hin.cur
      have hk := newKeep b (row_form ho).2.1 (own_typ ho)
      refine ⟨b, c, ?_, by rw [hk]; exact own_typ ho, hb.imp id fun hb => by omega, fun q' hq' => (World.cell?_of_block hk).trans (row_cell ho (by rw [List.getElem?_replicate, if_pos hq']))⟩
      rw [List.getElem?_append_right (by omega), lenm, Nat.sub_self, hv]
      rfl
    · obtain ⟨b, c, hv, hT, hb, hc⟩ := h.new t q (by omega) hq
      have hqg := hl.rg t q hq
      have hbl : b < wi.heap.size := by
        obtain ⟨cur, hcur⟩ := hT
        exact (Array.getElem?_eq_some_iff.1 hcur).1
      have hbr : b ≠ r.g := by
        rcases hb with rfl | hb
        · exact rlt t q hq e
        · omega
      have hk := txtKeep b hbl hbr hT
      refine ⟨b, c, ?_, by rw [hk]; exact hT, hb, fun q' hq' => (World.cell?_of_block hk).trans (hc q' hq')⟩
      rw [List.getElem?_append_left (by omega)]
      exact hv
end
end Go.Proofs.YtiiadibbkijnhaaGreatDoor
