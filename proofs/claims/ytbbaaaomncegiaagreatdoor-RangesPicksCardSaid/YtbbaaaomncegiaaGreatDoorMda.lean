/-
  Made in plain Lean: what is asked of a number by two sets; where no span begins or ends, nothing changes; what Put, Take, Both, Others, Of make is what is asked for.
-/
import Derived.Test.YtbbaaaomncegiaaGreatDoorRnv
namespace Go.Proofs.Rng
open Go.Proofs.Spn

def hasA (l : List Sp) (y : Int) : Bool := l.any fun s => hasS s y
theorem hasA_iff (l : List Sp) (y : Int) : hasA l y = true ↔ InS l y := any_has l y
theorem hasA_nil (y : Int) : hasA [] y = false := rfl
theorem hasA_snoc {l : List Sp} {k : Nat} {x : Sp} (h : l[k]? = some x) (y : Int) : hasA (l.take (k + 1)) y = (hasA (l.take k) y || hasS x y) := by
  unfold hasA
  rw [List.take_add_one, h, List.any_append]
  simp [Option.toList]
theorem hasA_yes {l : List Sp} {k : Nat} {x : Sp} (h : l[k]? = some x) {y : Int} (hy : hasS x y = true) : hasA l y = true := by
  unfold hasA
  rw [List.any_eq_true]
  exact ⟨x, List.mem_iff_getElem?.2 ⟨k, h⟩, hy⟩
theorem hasA_one (s : Sp) (y : Int) : hasA [s] y = hasS s y := by simp [hasA]

/-- What is asked of a number by two sets. -/
def askB (how : Int) (a b : List Sp) (y : Int) : Bool :=
  if how = 1 then hasA a y || hasA b y else if how = 2 then hasA a y && !hasA b y else if how = 3 then hasA a y && hasA b y else !hasA a y

/-- No span begins or ends behind one number and before another one. -/
def Still (l : List Sp) (a n : Int) : Prop := ∀ s, s ∈ l → (a < s.1 → n ≤ s.1) ∧ (a < s.2 → n ≤ s.2)
theorem hasS_still {s : Sp} {a n y : Int} (h : (a < s.1 → n ≤ s.1) ∧ (a < s.2 → n ≤ s.2)) (h1 : a ≤ y) (h2 : y < n) : hasS s y = hasS s a := by
  unfold hasS
  rw [decide_eq_decide]
  constructor <;> intro h3 <;> constructor <;> omega
theorem hasA_still {l : List Sp} {a n y : Int} (h : Still l a n) (h1 : a ≤ y) (h2 : y < n) : hasA l y = hasA l a := by
  unfold hasA
  induction l with
  | nil => rfl
  | cons s r ih =>
    rw [List.any_cons, List.any_cons, hasS_still (h s (List.mem_cons_self ..)) h1 h2, ih fun t ht => h t (List.mem_cons_of_mem _ ht)]
theorem ask_still {how : Int} {p q : List Sp} {a n y : Int} (hp : Still p a n) (hq : Still q a n) (h1 : a ≤ y) (h2 : y < n) : askB how p q y = askB how p q a := by
  unfold askB
  rw [hasA_still hp h1 h2, hasA_still hq h1 h2]

/-! ### The ends -/
def endsS : List Sp → List Int
  | [] => []
  | s :: r => s.1 :: s.2 :: endsS r
theorem endsS_append (a b : List Sp) : endsS (a ++ b) = endsS a ++ endsS b := by
  induction a with
  | nil => rfl
  | cons s r ih => simp only [endsS, List.cons_append, ih]
theorem endsS_length (l : List Sp) : (endsS l).length = 2 * l.length := by
  induction l with
  | nil => rfl
  | cons s r ih => simp only [endsS, List.length_cons, ih]; omega
theorem endsS_mem {l : List Sp} {s : Sp} (h : s ∈ l) : s.1 ∈ endsS l ∧ s.2 ∈ endsS l := by
  induction l with
  | nil => cases h
  | cons t r ih =>
    unfold endsS
    rcases List.mem_cons.1 h with rfl | h
    · exact ⟨List.mem_cons_self .., List.mem_cons_of_mem _ (List.mem_cons_self ..)⟩
    · exact ⟨List.mem_cons_of_mem _ (List.mem_cons_of_mem _ (ih h).1), List.mem_cons_of_mem _ (List.mem_cons_of_mem _ (ih h).2)⟩
theorem endsS_snoc {l : List Sp} {k : Nat} {x : Sp} (h : l[k]? = some x) : endsS (l.take (k + 1)) = endsS (l.take k) ++ [x.1, x.2] := by
  rw [List.take_add_one, h, endsS_append]
  rfl
theorem endsS_take_le (l : List Sp) (k : Nat) : (endsS (l.take k)).length ≤ 2 * l.length := by
  rw [endsS_length]
  have := List.length_take_le' k l
  omega
/-- The next end behind a number, of those that have been looked at. -/
structure NextI (E : List Int) (a n : Int) : Prop where
  lo : a < n
  hi : n ≤ 1000000
  le : ∀ e, e ∈ E → a < e → n ≤ e
theorem NextI.start {a : Int} (h : a < 1000000) : NextI [] a 1000000 := ⟨h, Int.le_refl _, fun _ h => by cases h⟩
theorem NextI.take {E : List Int} {k : Nat} {a n e : Int} (h : NextI (E.take k) a n) (he : E[k]? = some e) (h1 : a < e) (h2 : e < n) : NextI (E.take (k + 1)) a e := by
  refine ⟨h1, by have := h.hi; omega, fun x hx hax => ?_⟩
  rw [List.take_add_one, he] at hx
  rcases List.mem_append.1 hx with hx | hx
  · have := h.le x hx hax; omega
  · simp [Option.toList] at hx; omega
theorem NextI.skip {E : List Int} {k : Nat} {a n e : Int} (h : NextI (E.take k) a n) (he : E[k]? = some e) (h1 : ¬ (a < e ∧ e < n)) : NextI (E.take (k + 1)) a n := by
  refine ⟨h.lo, h.hi, fun x hx hax => ?_⟩
  rw [List.take_add_one, he] at hx
  rcases List.mem_append.1 hx with hx | hx
  · exact h.le x hx hax
  · simp [Option.toList] at hx; omega
theorem NextI.still {p q : List Sp} {E0 : List Int} {a n : Int} (h : NextI (E0 ++ endsS p ++ endsS q) a n) : Still p a n ∧ Still q a n := by
  constructor
  · intro s hs
    obtain ⟨h1, h2⟩ := endsS_mem hs
    exact ⟨h.le _ (List.mem_append_left _ (List.mem_append_right _ h1)), h.le _ (List.mem_append_left _ (List.mem_append_right _ h2))⟩
  · intro s hs
    obtain ⟨h1, h2⟩ := endsS_mem hs
    exact ⟨h.le _ (List.mem_append_right _ h1), h.le _ (List.mem_append_right _ h2)⟩

/-! ### What has been made so far -/
structure MadeI (how : Int) (p q : List Sp) (a : Int) (o : List Sp) : Prop where
  canon : Canon o
  lo : 1 ≤ a
  hi : a ≤ 1000000
  within : ∀ s, s ∈ o → 1 ≤ s.1 ∧ s.2 ≤ a
  iff : ∀ y, InS o y ↔ (1 ≤ y ∧ y < a) ∧ askB how p q y = true
theorem MadeI.start (how : Int) (p q : List Sp) : MadeI how p q 1 [] :=
  ⟨trivial, Int.le_refl _, by omega, fun _ h => (by cases h), fun y => by rw [InS_nil]; exact ⟨False.elim, fun h => by omega⟩⟩
theorem MadeI.no {how : Int} {p q : List Sp} {a n : Int} {o : List Sp} (h : MadeI how p q a o) (h1 : a < n) (h2 : n ≤ 1000000) (hp : Still p a n) (hq : Still q a n) (hk : askB how p q a = false) : MadeI how p q n o := by
  refine ⟨h.canon, by have := h.lo; omega, h2, fun s hs => by have := h.within s hs; omega, fun y => ?_⟩
  rw [h.iff]
  constructor
  · rintro ⟨h3, h4⟩; exact ⟨by omega, h4⟩
  · rintro ⟨h3, h4⟩
    refine ⟨⟨h3.1, ?_⟩, h4⟩
    rcases Int.lt_or_le y a with h5 | h5
    · exact h5
    · rw [ask_still hp hq h5 h3.2, hk] at h4; cases h4
theorem MadeI.yes {how : Int} {p q : List Sp} {a n : Int} {o : List Sp} (h : MadeI how p q a o) (h1 : a < n) (h2 : n ≤ 1000000) (hp : Still p a n) (hq : Still q a n) (hk : askB how p q a = true) : MadeI how p q n (addS o (a, n)) := by
  have hlast : ∀ t, o.getLast? = some t → t.1 ≤ a := fun t ht => by
    have hm := List.mem_of_getLast? ht
    have := h.within t hm
    have := h.canon.each t hm
    omega
  obtain ⟨c1, c2, _⟩ := addS_canon o (a, n) h.canon hlast h1
  have hin : ∀ y, InS (addS o (a, n)) y ↔ (1 ≤ y ∧ y < n) ∧ askB how p q y = true := fun y => by
    rw [c2, h.iff]
    have := h.lo
    constructor
    · rintro (⟨h3, h4⟩ | h3)
      · exact ⟨by omega, h4⟩
      · exact ⟨by simp only at h3; omega, by rw [ask_still hp hq h3.1 h3.2]; exact hk⟩
    · rintro ⟨h3, h4⟩
      rcases Int.lt_or_le y a with h5 | h5
      · exact Or.inl ⟨by omega, h4⟩
      · exact Or.inr ⟨h5, h3.2⟩
  exact ⟨c1, by have := h.lo; omega, h2, c1.within fun y hy => ((hin y).1 hy).1, hin⟩
theorem MadeI.last {how : Int} {p q : List Sp} {a : Int} {pre : List Sp} {t : Sp} (h : MadeI how p q a (pre ++ [t])) (n : Int) (hn : a < n) : t.2 ≤ a ∧ addS (pre ++ [t]) (a, n) = if t.2 = a then pre ++ [(t.1, n)] else pre ++ [t] ++ [(a, n)] := by
  have h1 := (h.within t (by simp)).2
  refine ⟨h1, ?_⟩
  rw [addS_snoc]
  by_cases e : t.2 = a
  · rw [if_pos e, if_pos (by simp only; omega)]
    simp only
    rw [show max t.2 n = n by omega]
  · rw [if_neg e, if_neg (by simp only; omega)]
theorem Canon_room {l : List Sp} (h : Canon l) {lo hi : Int} (hlh : lo ≤ hi) (hw : ∀ s, s ∈ l → lo ≤ s.1 ∧ s.2 ≤ hi) : (l.length : Int) ≤ hi - lo := by
  induction l generalizing lo with
  | nil => simp; omega
  | cons s r ih =>
    have h1 := hw s (List.mem_cons_self ..)
    have h2 := h.head
    have := ih h.tail (lo := s.2) h1.2 fun t ht => ⟨by have := h.above t ht; omega, (hw t (List.mem_cons_of_mem _ ht)).2⟩
    simp only [List.length_cons]
    omega
theorem MadeI.room {how : Int} {p q : List Sp} {a : Int} {o : List Sp} (h : MadeI how p q a o) : o.length ≤ 1000000 := by
  have := Canon_room h.canon h.lo h.within
  have := h.hi
  omega
/-- What is made in the end. -/
structure IsMade (how : Int) (p q : List Sp) (l : List Sp) : Prop where
  may : May l
  iff : ∀ y, InS l y ↔ (1 ≤ y ∧ y < 1000000) ∧ askB how p q y = true
theorem MadeI.end_ {how : Int} {p q l : List Sp} {a : Int} {o : List Sp} (h : MadeI how p q a o) (ha : ¬ a < 1000000) (hl : IsMade how p q l) : o = l := by
  have := h.hi
  obtain rfl : a = 1000000 := by omega
  exact May.unique (May.of h.canon fun y hy => ((h.iff y).1 hy).1) hl.may fun y => by rw [h.iff, hl.iff]

/-! ### The choices are what is asked for -/
theorem hasS_iff (s : Sp) (y : Int) : hasS s y = true ↔ s.1 ≤ y ∧ y < s.2 := by unfold hasS; simp
theorem put_made {l : List Sp} (h : May l) (s : Sp) : IsMade 1 l [s] (putS l s) := by
  refine ⟨put_may h s, fun y => ?_⟩
  rw [put_in h]
  unfold askB
  rw [if_pos rfl, Bool.or_eq_true, hasA_iff, hasA_one, hasS_iff]
  constructor
  · rintro (h1 | ⟨h1, h2⟩)
    · exact ⟨h.in_ h1, Or.inl h1⟩
    · exact ⟨h2, Or.inr h1⟩
  · rintro ⟨h1, h2 | h2⟩
    · exact Or.inl h2
    · exact Or.inr ⟨h2, h1⟩
theorem take_made {l : List Sp} (h : May l) (s : Sp) : IsMade 2 l [s] (takeS l s) := by
  refine ⟨take_may h s, fun y => ?_⟩
  rw [take_in h]
  unfold askB
  rw [if_neg (by decide), if_pos rfl, Bool.and_eq_true, Bool.not_eq_true', ← Bool.not_eq_true, hasA_iff, hasA_one, hasS_iff]
  constructor
  · rintro ⟨h1, h2⟩; exact ⟨h.in_ h1, h1, h2⟩
  · rintro ⟨_, h1, h2⟩; exact ⟨h1, h2⟩
theorem both_made {a b : List Sp} (ha : May a) (hb : May b) : IsMade 3 a b (bothS a b) := by
  refine ⟨both_may ha hb, fun y => ?_⟩
  rw [both_in ha hb]
  unfold askB
  rw [if_neg (by decide), if_neg (by decide), if_pos rfl, Bool.and_eq_true, hasA_iff, hasA_iff]
  constructor
  · rintro ⟨h1, h2⟩; exact ⟨ha.in_ h1, h1, h2⟩
  · rintro ⟨_, h1, h2⟩; exact ⟨h1, h2⟩
theorem others_made {l : List Sp} (h : May l) : IsMade 4 l [] (othersS l) := by
  refine ⟨others_may h, fun y => ?_⟩
  rw [others_in h]
  unfold askB
  rw [if_neg (by decide), if_neg (by decide), if_neg (by decide), Bool.not_eq_true', ← Bool.not_eq_true, hasA_iff]
theorem of_made (ns : List Int) (k : Nat) (n : Int) (h : ns[k]? = some n) : IsMade 1 (ofS (ns.take k)) [(n, n + 1)] (ofS (ns.take (k + 1))) := by
  refine ⟨of_may _, fun y => ?_⟩
  rw [of_in]
  unfold askB
  rw [if_pos rfl, Bool.or_eq_true, hasA_iff, hasA_one, hasS_iff, of_in, List.take_add_one, h]
  simp only [Option.toList, List.mem_append, List.mem_singleton]
  constructor
  · rintro ⟨h1 | h1, h2⟩
    · exact ⟨h2, Or.inl ⟨h1, h2⟩⟩
    · exact ⟨h2, Or.inr (by omega)⟩
  · rintro ⟨h1, h2 | h2⟩
    · exact ⟨Or.inl h2.1, h1⟩
    · exact ⟨Or.inr (by omega), h1⟩
theorem of_skip (ns : List Int) (k : Nat) (n : Int) (h : ns[k]? = some n) (hn : ¬ (1 ≤ n ∧ n ≤ 999999)) : ofS (ns.take (k + 1)) = ofS (ns.take k) := by
  refine (of_may _).unique (of_may _) fun y => ?_
  rw [of_in, of_in, List.take_add_one, h]
  simp only [Option.toList, List.mem_append, List.mem_singleton]
  constructor
  · rintro ⟨h1 | h1, h2⟩
    · exact ⟨h1, h2⟩
    · omega
  · rintro ⟨h1, h2⟩
    exact ⟨Or.inl h1, h2⟩
end Go.Proofs.Rng
