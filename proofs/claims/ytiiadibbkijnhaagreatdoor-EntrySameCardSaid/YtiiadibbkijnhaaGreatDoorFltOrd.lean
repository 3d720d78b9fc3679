/-
  The order of filters, in plain Lean: it is an order. No program.
-/
import Derived.Test.YtiiadibbkijnhaaGreatDoorFltLaw
namespace Go.FltLaw

/-- A triple of answers that an order may give. -/
def Tri (a b c : Ordering) : Prop := a ≠ .gt → b ≠ .gt → c ≠ .gt ∧ ((a = .lt ∨ b = .lt) → c = .lt) ∧ (a = .eq → b = .eq → c = .eq)

theorem Tri.then' {a b c x y z : Ordering} (h : Tri a b c) (h' : a = .eq → b = .eq → Tri x y z) : Tri (a.then x) (b.then y) (c.then z) := by
  intro ha hb
  cases a with
  | gt => exact absurd rfl ha
  | lt =>
    cases b with
    | gt => exact absurd rfl hb
    | lt => have := (h (by simp) (by simp)).2.1 (.inl rfl); subst this; simp [Ordering.then]
    | eq => have := (h (by simp) (by simp)).2.1 (.inl rfl); subst this; simp [Ordering.then]
  | eq =>
    cases b with
    | gt => exact absurd rfl hb
    | lt => have := (h (by simp) (by simp)).2.1 (.inr rfl); subst this; simp [Ordering.then]
    | eq =>
      have := (h (by simp) (by simp)).2.2 rfl rfl
      subst this
      exact h' rfl rfl ha hb
theorem Tri.eqs : Tri .eq .eq .eq := fun _ _ => ⟨by simp, by simp, by simp⟩

theorem nat_swap (a b : Nat) : compare b a = (compare a b).swap := by
  simp only [Nat.compare_eq_ite_lt]
  repeat' split
  all_goals first | rfl | (exfalso; omega)
theorem int_swap (a b : Int) : compare b a = (compare a b).swap := by
  simp only [compare, compareOfLessAndEq]
  repeat' split
  all_goals first | rfl | (exfalso; omega)
theorem nat_tri (a b c : Nat) : Tri (compare a b) (compare b c) (compare a c) := by
  unfold Tri
  simp only [Nat.compare_eq_ite_lt]
  repeat' split
  all_goals first | (exfalso; omega) | (simp; done) | (intro h1 h2; simp at h1 h2; done)
theorem int_tri (a b c : Int) : Tri (compare a b) (compare b c) (compare a c) := by
  unfold Tri
  simp only [compare, compareOfLessAndEq]
  repeat' split
  all_goals first | (exfalso; omega) | (simp; done) | (intro h1 h2; simp at h1 h2; done)

/-! ### Lists -/
def lex {α : Type} (c : α → α → Ordering) : List α → List α → Ordering
  | [], [] => .eq
  | [], _ :: _ => .lt
  | _ :: _, [] => .gt
  | a :: l, b :: m => (c a b).then (lex c l m)

section
variable {α : Type} {c : α → α → Ordering}
theorem lex_swap (h : ∀ a b, c b a = (c a b).swap) : ∀ l m, lex c m l = (lex c l m).swap
  | [], [] => rfl
  | [], _ :: _ => rfl
  | _ :: _, [] => rfl
  | a :: l, b :: m => by
    unfold lex
    rw [h a b, lex_swap h l m]
    cases c a b <;> rfl
theorem lex_self (h : ∀ a, c a a = .eq) : ∀ l, lex c l l = .eq
  | [] => rfl
  | a :: l => by
    unfold lex
    rw [h a, lex_self h l]
    rfl
theorem lex_tri (h : ∀ a b d, Tri (c a b) (c b d) (c a d)) : ∀ l m n, Tri (lex c l m) (lex c m n) (lex c l n)
  | [], [], [] => Tri.eqs
  | [], [], _ :: _ => fun _ _ => ⟨by simp [lex], by simp [lex], by simp [lex]⟩
  | [], _ :: _, [] => fun _ h => by simp [lex] at h
  | [], _ :: _, _ :: _ => fun _ _ => ⟨by simp [lex], by simp [lex], by simp [lex]⟩
  | _ :: _, [], _ => fun h => by simp [lex] at h
  | _ :: _, _ :: _, [] => fun _ h => by simp [lex] at h
  | a :: l, b :: m, d :: n => by
    unfold lex
    exact (h a b d).then' fun _ _ => lex_tri h l m n
end

def byteCmp (a b : UInt8) : Ordering := compare a.toNat b.toNat
def txtCmp : List UInt8 → List UInt8 → Ordering := lex byteCmp
def boolCmp (a b : Bool) : Ordering := compare a.toNat b.toNat

mutual
def cmp : Flt → Flt → Ordering
  | .mk k ks ds vl st ms fn rl dn, .mk k' ks' ds' vl' st' ms' fn' rl' dn' =>
    (compare k k').then ((txtCmp ds ds').then ((txtCmp vl vl').then ((txtCmp st st').then ((lex txtCmp ms ms').then ((txtCmp fn fn').then ((txtCmp rl rl').then ((boolCmp dn dn').then (cmps ks ks'))))))))
def cmps : List Flt → List Flt → Ordering
  | [], [] => .eq
  | [], _ :: _ => .lt
  | _ :: _, [] => .gt
  | f :: fs, g :: gs => (cmp f g).then (cmps fs gs)
end

theorem then_swap (a b : Ordering) : (a.then b).swap = a.swap.then b.swap := by cases a <;> rfl
theorem txt_swap (a b : List UInt8) : txtCmp b a = (txtCmp a b).swap := lex_swap (fun _ _ => nat_swap _ _) a b
theorem txt_self (a : List UInt8) : txtCmp a a = .eq := lex_self (fun x => by simp [byteCmp]) a
theorem txt_tri (a b d : List UInt8) : Tri (txtCmp a b) (txtCmp b d) (txtCmp a d) := lex_tri (c := byteCmp) (fun x y z => nat_tri x.toNat y.toNat z.toNat) a b d

mutual
theorem cmp_swap : ∀ f g : Flt, cmp g f = (cmp f g).swap
  | .mk k ks ds vl st ms fn rl dn, .mk k' ks' ds' vl' st' ms' fn' rl' dn' => by
    unfold cmp
    rw [int_swap k k', txt_swap ds ds', txt_swap vl vl', txt_swap st st', lex_swap txt_swap ms ms', txt_swap fn fn', txt_swap rl rl', cmps_swap ks ks', show boolCmp dn' dn = (boolCmp dn dn').swap from nat_swap _ _]
    simp only [then_swap]
theorem cmps_swap : ∀ f g : List Flt, cmps g f = (cmps f g).swap
  | [], [] => by simp [cmps]
  | [], _ :: _ => by simp [cmps]
  | _ :: _, [] => by simp [cmps]
  | f :: fs, g :: gs => by
    unfold cmps
    rw [cmp_swap f g, cmps_swap fs gs, then_swap]
end
mutual
theorem cmp_self : ∀ f : Flt, cmp f f = .eq
  | .mk k ks ds vl st ms fn rl dn => by
    unfold cmp
    rw [txt_self, txt_self, txt_self, lex_self txt_self, txt_self, txt_self, cmps_self ks, show compare k k = .eq by simp, show boolCmp dn dn = .eq by simp [boolCmp]]
    rfl
theorem cmps_self : ∀ f : List Flt, cmps f f = .eq
  | [] => by simp [cmps]
  | f :: fs => by
    unfold cmps
    rw [cmp_self f, cmps_self fs]
    rfl
end
mutual
theorem cmp_tri : ∀ f g h : Flt, Tri (cmp f g) (cmp g h) (cmp f h)
  | .mk k ks ds vl st ms fn rl dn, .mk k' ks' ds' vl' st' ms' fn' rl' dn', .mk k2 ks2 ds2 vl2 st2 ms2 fn2 rl2 dn2 => by
    unfold cmp
    exact (int_tri k k' k2).then' fun _ _ => (txt_tri ds ds' ds2).then' fun _ _ => (txt_tri vl vl' vl2).then' fun _ _ => (txt_tri st st' st2).then' fun _ _ => (lex_tri txt_tri ms ms' ms2).then' fun _ _ =>
      (txt_tri fn fn' fn2).then' fun _ _ => (txt_tri rl rl' rl2).then' fun _ _ => (nat_tri dn.toNat dn'.toNat dn2.toNat).then' fun _ _ => cmps_tri ks ks' ks2
theorem cmps_tri : ∀ f g h : List Flt, Tri (cmps f g) (cmps g h) (cmps f h)
  | [], [], [] => by simpa [cmps] using Tri.eqs
  | [], [], _ :: _ => fun _ _ => ⟨by simp [cmps], by simp [cmps], by simp [cmps]⟩
  | [], _ :: _, [] => fun _ h => by simp [cmps] at h
  | [], _ :: _, _ :: _ => fun _ _ => ⟨by simp [cmps], by simp [cmps], by simp [cmps]⟩
  | _ :: _, [], _ => fun h => by simp [cmps] at h
  | _ :: _, _ :: _, [] => fun _ h => by simp [cmps] at h
  | f :: fs, g :: gs, h :: hs => by
    unfold cmps
    exact (cmp_tri f g h).then' fun _ _ => cmps_tri fs gs hs
end

/-- The number that tells how two stand to one another. -/
def num : Ordering → Int
  | .lt => -1
  | .eq => 0
  | .gt => 1
instance (f : Flt) : Decidable (may f) := inferInstanceAs (Decidable (_ = _))
def order (f g : Flt) : Ordering := if may f then (if may g then cmp f g else .lt) else if may g then .gt else .eq

theorem order_swap (f g : Flt) : order g f = (order f g).swap := by
  unfold order
  by_cases hf : may f <;> by_cases hg : may g <;> simp [hf, hg, cmp_swap f g]
theorem order_self (f : Flt) : order f f = .eq := by
  unfold order
  by_cases hf : may f <;> simp [hf, cmp_self]
theorem order_tri (f g h : Flt) : Tri (order f g) (order g h) (order f h) := by
  unfold order
  by_cases hf : may f <;> by_cases hg : may g <;> by_cases hh : may h <;> simp only [hf, hg, hh, if_true, if_false] <;> first | exact cmp_tri f g h | simp [Tri]
theorem num_swap (o : Ordering) : num o.swap = - num o := by cases o <;> rfl
theorem num_tri {a b c : Ordering} (h : Tri a b c) : (0 < num a ∨ 0 < num b ∨ num c ≤ 0) ∧ ((0 ≤ num a ∧ 0 ≤ num b) ∨ 0 < num a ∨ 0 < num b ∨ num c < 0) := by
  cases a <;> cases b <;> cases c <;> simp_all [Tri, num]

/-! ### The walk of a filter that may be -/
theorem walk_eq (k : Int) (ks : List Flt) (ds vl st : List UInt8) (ms : List (List UInt8)) (fn rl : List UInt8) (dn : Bool) (a n d : Nat) : walk (.mk k ks ds vl st ms fn rl dn) a n d =
    if 64 ≤ a then (91, n, d) else
    if 65536 < (if k = 2 then n else n + 1) ∨ long ds vl st ms fn rl then (3, (if k = 2 then n else n + 1), max d (a + 1)) else
    if right k ks.length ds vl st ms fn rl dn then walk.walks ks (a + 1) (if k = 2 then n else n + 1) (max d (a + 1)) else (90, (if k = 2 then n else n + 1), max d (a + 1)) := by
  rw [walk]

/-- What a part is whose walk ends well. -/
theorem walk_ok {k : Int} {ks : List Flt} {ds vl st : List UInt8} {ms : List (List UInt8)} {fn rl : List UInt8} {dn : Bool} {a n d : Nat} (h : (walk (.mk k ks ds vl st ms fn rl dn) a n d).1 = 0) :
    a < 64 ∧ (if k = 2 then n else n + 1) ≤ 65536 ∧ long ds vl st ms fn rl = false ∧ right k ks.length ds vl st ms fn rl dn = true ∧ (walk.walks ks (a + 1) (if k = 2 then n else n + 1) (max d (a + 1))).1 = 0 ∧
      walk (.mk k ks ds vl st ms fn rl dn) a n d = walk.walks ks (a + 1) (if k = 2 then n else n + 1) (max d (a + 1)) := by
  rw [walk_eq] at h ⊢
  by_cases h1 : 64 ≤ a
  · rw [if_pos h1] at h; simp at h
  rw [if_neg h1] at h ⊢
  by_cases h2 : 65536 < (if k = 2 then n else n + 1) ∨ long ds vl st ms fn rl
  · rw [if_pos h2] at h; simp at h
  rw [if_neg h2] at h ⊢
  by_cases h3 : right k ks.length ds vl st ms fn rl dn
  · rw [if_pos h3] at h ⊢
    refine ⟨by omega, ?_, ?_, h3, h, rfl⟩
    · exact Nat.le_of_not_lt fun h => h2 (.inl h)
    · simpa using fun h => h2 (.inr h)
  · rw [if_neg h3] at h; simp at h

theorem right_not {kids : Nat} {ds vl st : List UInt8} {ms : List (List UInt8)} {fn rl : List UInt8} {dn : Bool} (h : right 2 kids ds vl st ms fn rl dn = true) : kids = 1 := by
  simp [right] at h
  exact h.1.1.1.1.2

mutual
/-- A walk that ends well counts a part at least, and no more than may be. -/
theorem walk_more : ∀ (f : Flt) (a n d : Nat), (walk f a n d).1 = 0 → n + 1 ≤ (walk f a n d).2.1 ∧ (walk f a n d).2.1 ≤ 65536
  | .mk k ks ds vl st ms fn rl dn, a, n, d, h => by
    obtain ⟨h1, h2, h3, h4, h5, h6⟩ := walk_ok h
    rw [h6]
    obtain ⟨g1, g2⟩ := walks_more ks _ _ _ h2 h5
    refine ⟨?_, g2⟩
    by_cases hk : k = 2
    · subst hk
      have := right_not h4
      simp only [if_true] at g1 ⊢
      omega
    · simp only [if_neg hk] at g1 ⊢
      omega
theorem walks_more : ∀ (fs : List Flt) (a n d : Nat), n ≤ 65536 → (walk.walks fs a n d).1 = 0 → n + fs.length ≤ (walk.walks fs a n d).2.1 ∧ (walk.walks fs a n d).2.1 ≤ 65536
  | [], a, n, d, hn, _ => by simpa [walk.walks] using hn
  | f :: fs, a, n, d, hn, h => by
    rw [walk.walks] at h ⊢
    by_cases h0 : (walk f a n d).1 = 0
    · rw [if_pos h0] at h ⊢
      obtain ⟨g1, g2⟩ := walk_more f a n d h0
      obtain ⟨g3, g4⟩ := walks_more fs a _ _ g2 h
      simp only [List.length_cons]
      omega
    · rw [if_neg h0] at h
      exact absurd h h0
end

mutual
/-- The depth that is counted is never above 64. -/
theorem walk_d64 : ∀ (f : Flt) (a n d : Nat), d ≤ 64 → (walk f a n d).2.2 ≤ 64
  | .mk k ks ds vl st ms fn rl dn, a, n, d, hd => by
    rw [walk_eq]
    by_cases h1 : 64 ≤ a
    · rw [if_pos h1]; exact hd
    rw [if_neg h1]
    by_cases h2 : 65536 < (if k = 2 then n else n + 1) ∨ long ds vl st ms fn rl
    · rw [if_pos h2]; simp only; omega
    rw [if_neg h2]
    by_cases h3 : right k ks.length ds vl st ms fn rl dn
    · rw [if_pos h3]; exact walks_d64 ks _ _ _ (by omega)
    · rw [if_neg h3]; simp only; omega
theorem walks_d64 : ∀ (fs : List Flt) (a n d : Nat), d ≤ 64 → (walk.walks fs a n d).2.2 ≤ 64
  | [], _, _, _, hd => by simpa [walk.walks] using hd
  | f :: fs, a, n, d, hd => by
    rw [walk.walks]
    by_cases h0 : (walk f a n d).1 = 0
    · rw [if_pos h0]; exact walks_d64 fs a _ _ (walk_d64 f a n d hd)
    · rw [if_neg h0]; exact walk_d64 f a n d hd
end
/-- One kid more. -/
theorem walks_drop {ks : List Flt} {j : Nat} {f : Flt} (h : ks[j]? = some f) (a n d : Nat) : walk.walks (ks.drop j) a n d = if (walk f a n d).1 = 0 then walk.walks (ks.drop (j + 1)) a (walk f a n d).2.1 (walk f a n d).2.2 else walk f a n d := by
  have hlt := (List.getElem?_eq_some_iff.1 h).1
  have he := (List.getElem?_eq_some_iff.1 h).2
  rw [List.drop_eq_getElem_cons hlt, walk.walks, he]

/-- A filter that may be somewhere in another one: each of its parts has but so many kids. -/
def Sub (a : Nat) (f : Flt) : Prop := ∃ n d, (walk f a n d).1 = 0
theorem walks_sub : ∀ (fs : List Flt) (a n d : Nat), (walk.walks fs a n d).1 = 0 → ∀ f ∈ fs, Sub a f
  | [], _, _, _, _, _, hf => by cases hf
  | g :: fs, a, n, d, h, f, hf => by
    rw [walk.walks] at h
    by_cases h0 : (walk g a n d).1 = 0
    · rw [if_pos h0] at h
      rcases List.mem_cons.1 hf with rfl | hf
      · exact ⟨n, d, h0⟩
      · exact walks_sub fs a _ _ h f hf
    · rw [if_neg h0] at h
      exact absurd h h0
theorem Sub.kids {a : Nat} {k : Int} {ks : List Flt} {ds vl st : List UInt8} {ms : List (List UInt8)} {fn rl : List UInt8} {dn : Bool} (h : Sub a (.mk k ks ds vl st ms fn rl dn)) :
    a < 64 ∧ ks.length ≤ 65536 ∧ long ds vl st ms fn rl = false ∧ right k ks.length ds vl st ms fn rl dn = true ∧ ∀ f ∈ ks, Sub (a + 1) f := by
  obtain ⟨n, d, h⟩ := h
  obtain ⟨h1, h2, h3, h4, h5, _⟩ := walk_ok h
  obtain ⟨g1, g2⟩ := walks_more ks _ _ _ h2 h5
  exact ⟨h1, by omega, h3, h4, walks_sub ks _ _ _ h5⟩
theorem may_sub {f : Flt} (h : may f) : Sub 0 f := ⟨0, 0, h⟩
end Go.FltLaw
