/-
  Spans as pairs of whole numbers: what lies in them, what meets, the hull, what is left: plain mathematics, no program in sight.
-/
namespace Go.Proofs.Spn

abbrev Sp := Int × Int

def emp (s : Sp) : Bool := decide (s.2 ≤ s.1)
def lenS (s : Sp) : Int := if s.2 ≤ s.1 then 0 else s.2 - s.1
def hasS (s : Sp) (x : Int) : Bool := decide (s.1 ≤ x ∧ x < s.2)
def meetS (a b : Sp) : Sp := if a.2 ≤ a.1 ∨ b.2 ≤ b.1 ∨ min a.2 b.2 ≤ max a.1 b.1 then (0, 0) else (max a.1 b.1, min a.2 b.2)
def hullStep (o s : Sp) : Sp := if s.2 ≤ s.1 then o else if o = (0, 0) then s else (min o.1 s.1, max o.2 s.2)
def hullS (l : List Sp) : Sp := l.foldl hullStep (0, 0)

/-- What is left of one span without others that begin in rising order. -/
def leftS : Sp → List Sp → List Sp
  | s, [] => if s.2 ≤ s.1 then [] else [s]
  | s, x :: r => (if min x.1 s.2 ≤ s.1 then [] else [(s.1, min x.1 s.2)]) ++ leftS (max s.1 x.2, s.2) r

/-- A number is in one of some spans. -/
def InS (l : List Sp) (x : Int) : Prop := ∃ s, s ∈ l ∧ s.1 ≤ x ∧ x < s.2

/-- Spans that have something, rising, never side by side. -/
def Canon : List Sp → Prop
  | [] => True
  | [s] => s.1 < s.2
  | s :: t :: r => s.1 < s.2 ∧ s.2 < t.1 ∧ Canon (t :: r)

theorem Canon.tail {s : Sp} {r : List Sp} (h : Canon (s :: r)) : Canon r := by
  cases r with
  | nil => trivial
  | cons t r => exact h.2.2
theorem Canon.head {s : Sp} {r : List Sp} (h : Canon (s :: r)) : s.1 < s.2 := by
  cases r with
  | nil => exact h
  | cons t r => exact h.1
theorem Canon.above {s : Sp} {r : List Sp} (h : Canon (s :: r)) : ∀ t, t ∈ r → s.2 < t.1 := by
  induction r generalizing s with
  | nil => intro t ht; cases ht
  | cons u r ih =>
    intro t ht
    have h1 := h.2.1
    rcases List.mem_cons.1 ht with rfl | ht
    · exact h1
    · have := ih (s := u) h.2.2 t ht
      have := Canon.head (Canon.tail h)
      omega
theorem Canon.cons {s : Sp} {r : List Sp} (h : s.1 < s.2) (ha : ∀ t, t ∈ r → s.2 < t.1) (hr : Canon r) : Canon (s :: r) := by
  cases r with
  | nil => exact h
  | cons t r => exact ⟨h, ha t (List.mem_cons_self ..), hr⟩
theorem Canon.each {l : List Sp} (h : Canon l) : ∀ t, t ∈ l → t.1 < t.2 := by
  induction l with
  | nil => intro t ht; cases ht
  | cons s r ih =>
    intro t ht
    rcases List.mem_cons.1 ht with rfl | ht
    · exact h.head
    · exact ih h.tail t ht

theorem InS_nil (x : Int) : InS [] x ↔ False := ⟨fun ⟨_, h, _⟩ => (by cases h), False.elim⟩
theorem InS_cons (s : Sp) (l : List Sp) (x : Int) : InS (s :: l) x ↔ (s.1 ≤ x ∧ x < s.2) ∨ InS l x := by
  constructor
  · rintro ⟨t, ht, h⟩
    rcases List.mem_cons.1 ht with rfl | ht
    · exact .inl h
    · exact .inr ⟨t, ht, h⟩
  · rintro (h | ⟨t, ht, h⟩)
    · exact ⟨s, List.mem_cons_self .., h⟩
    · exact ⟨t, List.mem_cons_of_mem _ ht, h⟩
theorem InS_append (a b : List Sp) (x : Int) : InS (a ++ b) x ↔ InS a x ∨ InS b x := by
  constructor
  · rintro ⟨t, ht, h⟩
    rcases List.mem_append.1 ht with ht | ht
    · exact .inl ⟨t, ht, h⟩
    · exact .inr ⟨t, ht, h⟩
  · rintro (⟨t, ht, h⟩ | ⟨t, ht, h⟩)
    · exact ⟨t, List.mem_append_left _ ht, h⟩
    · exact ⟨t, List.mem_append_right _ ht, h⟩

/-- Each set of numbers is written as such spans in one way. -/
theorem Canon.unique {a b : List Sp} (ha : Canon a) (hb : Canon b) (h : ∀ x, InS a x ↔ InS b x) : a = b := by
  induction a generalizing b with
  | nil =>
    cases b with
    | nil => rfl
    | cons s r =>
      have := (h s.1).2 ((InS_cons _ _ _).2 (.inl ⟨Int.le_refl _, hb.head⟩))
      exact absurd this (by rw [InS_nil]; exact id)
  | cons s r ih =>
    cases b with
    | nil =>
      have := (h s.1).1 ((InS_cons _ _ _).2 (.inl ⟨Int.le_refl _, ha.head⟩))
      exact absurd this (by rw [InS_nil]; exact id)
    | cons t q =>
      have hs := ha.head
      have ht := hb.head
      have as := ha.above
      have bs := hb.above
      have lo : s.1 = t.1 := by
        have h1 := (h s.1).1 ((InS_cons _ _ _).2 (.inl ⟨Int.le_refl _, hs⟩))
        have h2 := (h t.1).2 ((InS_cons _ _ _).2 (.inl ⟨Int.le_refl _, ht⟩))
        have g1 : t.1 ≤ s.1 := by
          rcases (InS_cons _ _ _).1 h1 with h1 | ⟨u, hu, h1⟩
          · exact h1.1
          · have := bs u hu; omega
        have g2 : s.1 ≤ t.1 := by
          rcases (InS_cons _ _ _).1 h2 with h2 | ⟨u, hu, h2⟩
          · exact h2.1
          · have := as u hu; omega
        omega
      have hi : s.2 = t.2 := by
        rcases Int.lt_trichotomy s.2 t.2 with g | g | g
        · exfalso
          have h2 := (h s.2).2 ((InS_cons _ _ _).2 (.inl ⟨by omega, g⟩))
          rcases (InS_cons _ _ _).1 h2 with h2 | ⟨u, hu, h2⟩
          · omega
          · have := as u hu; omega
        · exact g
        · exfalso
          have h2 := (h t.2).1 ((InS_cons _ _ _).2 (.inl ⟨by omega, g⟩))
          rcases (InS_cons _ _ _).1 h2 with h2 | ⟨u, hu, h2⟩
          · omega
          · have := bs u hu; omega
      have e : s = t := Prod.ext lo hi
      subst e
      congr 1
      refine ih ha.tail hb.tail fun x => ?_
      constructor
      · intro hx
        rcases (InS_cons _ _ _).1 ((h x).1 ((InS_cons _ _ _).2 (.inr hx))) with g | g
        · obtain ⟨u, hu, h2⟩ := hx
          have := as u hu; omega
        · exact g
      · intro hx
        rcases (InS_cons _ _ _).1 ((h x).2 ((InS_cons _ _ _).2 (.inr hx))) with g | g
        · obtain ⟨u, hu, h2⟩ := hx
          have := bs u hu; omega
        · exact g

/-- Rising by where they begin. -/
def Rising : List Sp → Prop
  | [] => True
  | [_] => True
  | s :: t :: r => s.1 ≤ t.1 ∧ Rising (t :: r)
theorem Rising.tail {s : Sp} {r : List Sp} (h : Rising (s :: r)) : Rising r := by
  cases r with
  | nil => trivial
  | cons t r => exact h.2
theorem Rising.above {s : Sp} {r : List Sp} (h : Rising (s :: r)) : ∀ t, t ∈ r → s.1 ≤ t.1 := by
  induction r generalizing s with
  | nil => intro t ht; cases ht
  | cons u r ih =>
    intro t ht
    have h1 := h.1
    rcases List.mem_cons.1 ht with rfl | ht
    · exact h1
    · have := ih (s := u) h.2 t ht; omega

/-- What is left lies within. -/
theorem leftS_within (s : Sp) (l : List Sp) : ∀ t, t ∈ leftS s l → s.1 ≤ t.1 ∧ t.2 ≤ s.2 ∧ t.1 < t.2 := by
  induction l generalizing s with
  | nil =>
    intro t ht
    unfold leftS at ht
    split at ht
    · cases ht
    · simp at ht; subst ht; omega
  | cons x r ih =>
    intro t ht
    rw [leftS] at ht
    rcases List.mem_append.1 ht with ht | ht
    · split at ht
      · cases ht
      · simp at ht; subst ht; simp only; omega
    · have := ih _ t ht
      simp only at this
      omega

theorem leftS_canon (s : Sp) (l : List Sp) (hr : Rising l) (hn : ∀ x, x ∈ l → x.1 < x.2) : Canon (leftS s l) := by
  induction l generalizing s with
  | nil =>
    unfold leftS
    split
    · trivial
    · show s.1 < s.2; omega
  | cons x r ih =>
    rw [leftS]
    have h1 := ih (max s.1 x.2, s.2) hr.tail (fun y hy => hn y (List.mem_cons_of_mem _ hy))
    have hx := hn x (List.mem_cons_self ..)
    split
    · exact h1
    · refine Canon.cons (by simp only; omega) (fun t ht => ?_) h1
      have := leftS_within _ _ t ht
      simp only at this ⊢
      omega

theorem leftS_in (s : Sp) (l : List Sp) (hr : Rising l) (hn : ∀ x, x ∈ l → x.1 < x.2) (y : Int) : InS (leftS s l) y ↔ (s.1 ≤ y ∧ y < s.2) ∧ ¬ InS l y := by
  induction l generalizing s with
  | nil =>
    unfold leftS
    rw [InS_nil]
    split
    · rw [InS_nil]; exact ⟨False.elim, fun h => by omega⟩
    · rw [InS_cons, InS_nil]; simp
  | cons x r ih =>
    rw [leftS, InS_append, ih _ hr.tail (fun y hy => hn y (List.mem_cons_of_mem _ hy)), InS_cons]
    have hx := hn x (List.mem_cons_self ..)
    have ab := hr.above
    have e : InS (if min x.1 s.2 ≤ s.1 then [] else [(s.1, min x.1 s.2)]) y ↔ s.1 ≤ y ∧ y < x.1 ∧ y < s.2 := by
      split
      · rw [InS_nil]; exact ⟨False.elim, fun h => by omega⟩
      · rw [InS_cons, InS_nil]; exact ⟨fun h => by rcases h with h | h; (simp only at h; omega); exact h.elim, fun h => .inl (by simp only; omega)⟩
    rw [e]
    constructor
    · rintro (⟨a, b, c⟩ | ⟨⟨a, b⟩, c⟩)
      · refine ⟨⟨a, c⟩, fun h => ?_⟩
        rcases h with h | ⟨u, hu, h⟩
        · omega
        · have := ab u hu; omega
      · simp only at a b
        refine ⟨⟨by omega, b⟩, fun h => ?_⟩
        rcases h with h | h
        · omega
        · exact c h
    · rintro ⟨⟨a, b⟩, c⟩
      by_cases hy : y < x.1
      · exact .inl ⟨a, hy, b⟩
      · refine .inr ⟨⟨?_, b⟩, fun h => c (.inr h)⟩
        simp only
        by_cases h2 : y < x.2
        · exact absurd (.inl ⟨by omega, h2⟩) c
        · omega

/-! ### The document's answer -/
def rMeet (a b : Sp) : Sp :=
  if a.2 ≤ a.1 ∨ b.2 ≤ b.1 then (0, 0) else
    let c : Sp := (if a.1 < b.1 then b.1 else a.1, if b.2 < a.2 then b.2 else a.2)
    if c.2 ≤ c.1 then (0, 0) else c
def rHullStep (o s : Sp) : Sp := if s.2 ≤ s.1 then o else
  let p : Sp := if o.2 ≤ o.1 then s else o
  (min p.1 s.1, max p.2 s.2)
def rHull (l : List Sp) : Sp := l.foldl rHullStep (0, 0)
/-- One span taken out of all that is left. -/
def rCut (out : List Sp) (x : Sp) : List Sp := (out.flatMap fun o => [(o.1, min o.2 x.1), (max o.1 x.2, o.2)]).filter fun o => !emp o
def rStep (out : List Sp) (x : Sp) : List Sp := if x.2 ≤ x.1 then out else rCut out x
def rLess (s : Sp) (l : List Sp) : List Sp :=
  match l.foldl rStep [s] with
  | [o] => if o.2 ≤ o.1 then [] else [o]
  | out => out

theorem meet_eq (a b : Sp) : meetS a b = rMeet a b := by
  unfold meetS rMeet
  by_cases h : a.2 ≤ a.1 ∨ b.2 ≤ b.1
  · rw [if_pos h, if_pos (by omega)]
  · rw [if_neg h]
    have e : (if a.1 < b.1 then b.1 else a.1) = max a.1 b.1 := by split <;> omega
    have f : (if b.2 < a.2 then b.2 else a.2) = min a.2 b.2 := by split <;> omega
    simp only [e, f]
    by_cases g : min a.2 b.2 ≤ max a.1 b.1
    · rw [if_pos (by omega), if_pos g]
    · rw [if_neg (by omega), if_neg g]

theorem hullStep_or (o s : Sp) (ho : o = (0, 0) ∨ o.1 < o.2) : hullStep o s = rHullStep o s ∧ (hullStep o s = (0, 0) ∨ (hullStep o s).1 < (hullStep o s).2) := by
  unfold hullStep rHullStep
  by_cases h : s.2 ≤ s.1
  · rw [if_pos h, if_pos h]; exact ⟨rfl, ho⟩
  · rw [if_neg h, if_neg h]
    rcases ho with rfl | ho
    · rw [if_pos rfl]
      refine ⟨?_, .inr (by omega)⟩
      simp
    · have hne : ¬ o = (0, 0) := fun e => by rw [e] at ho; simp at ho
      rw [if_neg hne]
      have : ¬ o.2 ≤ o.1 := by omega
      simp only [if_neg this]
      exact ⟨trivial, .inr (by omega)⟩

theorem hull_fold (l : List Sp) (o : Sp) (ho : o = (0, 0) ∨ o.1 < o.2) : l.foldl hullStep o = l.foldl rHullStep o := by
  induction l generalizing o with
  | nil => rfl
  | cons s r ih =>
    obtain ⟨e, h⟩ := hullStep_or o s ho
    rw [List.foldl_cons, List.foldl_cons, ← e]
    exact ih _ h
theorem hull_eq (l : List Sp) : hullS l = rHull l := hull_fold l _ (.inl rfl)

theorem rCut_within (out : List Sp) (x : Sp) : ∀ t, t ∈ rCut out x → t.1 < t.2 ∧ ∃ o, o ∈ out ∧ o.1 ≤ t.1 ∧ t.2 ≤ o.2 := by
  intro t ht
  unfold rCut at ht
  obtain ⟨h1, h2⟩ := List.mem_filter.1 ht
  obtain ⟨o, ho, h3⟩ := List.mem_flatMap.1 h1
  have h2' : t.1 < t.2 := by
    unfold emp at h2
    simp only [Bool.not_eq_true', decide_eq_false_iff_not] at h2
    omega
  refine ⟨h2', o, ho, ?_⟩
  simp only [List.mem_cons, List.not_mem_nil, or_false] at h3
  rcases h3 with rfl | rfl
  · simp only; omega
  · simp only; omega

theorem rCut_cons (o : Sp) (r : List Sp) (x : Sp) : rCut (o :: r) x = (if min o.2 x.1 ≤ o.1 then [] else [(o.1, min o.2 x.1)]) ++ ((if o.2 ≤ max o.1 x.2 then [] else [(max o.1 x.2, o.2)]) ++ rCut r x) := by
  unfold rCut
  rw [List.flatMap_cons, List.filter_append]
  by_cases h1 : min o.2 x.1 ≤ o.1 <;> by_cases h2 : o.2 ≤ max o.1 x.2 <;> simp [emp, h1, h2]

theorem rCut_canon (out : List Sp) (x : Sp) (hc : Canon out) (hx : x.1 < x.2) : Canon (rCut out x) := by
  induction out with
  | nil => exact hc
  | cons o r ih =>
    rw [rCut_cons]
    have h1 := ih hc.tail
    have ab := hc.above
    have ho := hc.head
    have h2 : ∀ t, t ∈ rCut r x → o.2 < t.1 := fun t ht => by
      obtain ⟨_, u, hu, h3, _⟩ := rCut_within r x t ht
      have := ab u hu; omega
    have h3 : Canon ((if o.2 ≤ max o.1 x.2 then [] else [(max o.1 x.2, o.2)]) ++ rCut r x) := by
      split
      · exact h1
      · exact Canon.cons (by simp only; omega) (fun t ht => h2 t ht) h1
    split
    · exact h3
    · refine Canon.cons (by simp only; omega) (fun t ht => ?_) h3
      have ht' : t ∈ (if o.2 ≤ max o.1 x.2 then [] else [(max o.1 x.2, o.2)]) ++ rCut r x := ht
      rcases List.mem_append.1 ht' with ht | ht
      · split at ht
        · cases ht
        · simp at ht; subst ht; simp only; omega
      · have := h2 t ht; simp only; omega

theorem rCut_in (out : List Sp) (x : Sp) (y : Int) : InS (rCut out x) y ↔ InS out y ∧ ¬ (x.1 ≤ y ∧ y < x.2) := by
  induction out with
  | nil => rw [show rCut [] x = [] from rfl, InS_nil]; simp
  | cons o r ih =>
    rw [rCut_cons, InS_append, InS_append, ih, InS_cons]
    have e : InS (if min o.2 x.1 ≤ o.1 then [] else [(o.1, min o.2 x.1)]) y ↔ o.1 ≤ y ∧ y < o.2 ∧ y < x.1 := by
      split
      · rw [InS_nil]; exact ⟨False.elim, fun h => by omega⟩
      · rw [InS_cons, InS_nil]; exact ⟨fun h => by rcases h with h | h; (simp only at h; omega); exact h.elim, fun h => .inl (by simp only; omega)⟩
    have f : InS (if o.2 ≤ max o.1 x.2 then [] else [(max o.1 x.2, o.2)]) y ↔ o.1 ≤ y ∧ y < o.2 ∧ x.2 ≤ y := by
      split
      · rw [InS_nil]; exact ⟨False.elim, fun h => by omega⟩
      · rw [InS_cons, InS_nil]; exact ⟨fun h => by rcases h with h | h; (simp only at h; omega); exact h.elim, fun h => .inl (by simp only; omega)⟩
    rw [e, f]
    constructor
    · rintro (h | h | h)
      · exact ⟨.inl (by omega), by omega⟩
      · exact ⟨.inl (by omega), by omega⟩
      · exact ⟨.inr h.1, h.2⟩
    · rintro ⟨h | h, g⟩
      · by_cases hy : y < x.1
        · exact .inl (by omega)
        · exact .inr (.inl (by omega))
      · exact .inr (.inr ⟨h, g⟩)

theorem rFold_canon (l : List Sp) (out : List Sp) (hc : Canon out) : Canon (l.foldl rStep out) := by
  induction l generalizing out with
  | nil => exact hc
  | cons x r ih =>
    rw [List.foldl_cons]
    refine ih _ ?_
    unfold rStep
    split
    · exact hc
    · exact rCut_canon out x hc (by omega)
theorem rFold_in (l : List Sp) (out : List Sp) (y : Int) : InS (l.foldl rStep out) y ↔ InS out y ∧ ¬ InS l y := by
  induction l generalizing out with
  | nil => simp [InS_nil]
  | cons x r ih =>
    rw [List.foldl_cons, ih, InS_cons]
    have : InS (rStep out x) y ↔ InS out y ∧ ¬ (x.1 ≤ y ∧ y < x.2) := by
      unfold rStep
      split
      · constructor
        · intro h; exact ⟨h, by omega⟩
        · exact fun h => h.1
      · exact rCut_in out x y
    rw [this]
    constructor
    · rintro ⟨⟨a, b⟩, c⟩
      exact ⟨a, fun h => h.elim b c⟩
    · rintro ⟨a, b⟩
      exact ⟨⟨a, fun h => b (.inl h)⟩, fun h => b (.inr h)⟩
theorem rFold_none (l : List Sp) (s : Sp) (h : s.2 ≤ s.1) : l.foldl rStep [s] = [s] ∨ l.foldl rStep [s] = [] := by
  have nil : ∀ l : List Sp, l.foldl rStep [] = [] := by
    intro l
    induction l with
    | nil => rfl
    | cons x r ih =>
      rw [List.foldl_cons]
      unfold rStep
      split
      · exact ih
      · exact ih
  induction l with
  | nil => exact .inl rfl
  | cons x r ih =>
    rw [List.foldl_cons]
    unfold rStep
    split
    · exact ih
    · right
      have : rCut [s] x = [] := by
        rw [rCut_cons, if_pos (by omega), if_pos (by omega)]; rfl
      rw [this]; exact nil r

theorem rLess_canon (s : Sp) (l : List Sp) : Canon (rLess s l) ∧ ∀ y, InS (rLess s l) y ↔ (s.1 ≤ y ∧ y < s.2) ∧ ¬ InS l y := by
  unfold rLess
  by_cases h : s.2 ≤ s.1
  · have : (match l.foldl rStep [s] with | [o] => if o.2 ≤ o.1 then [] else [o] | out => out) = [] := by
      rcases rFold_none l s h with e | e
      · rw [e]; simp [h]
      · rw [e]
    rw [this]
    refine ⟨trivial, fun y => ?_⟩
    rw [InS_nil]
    exact ⟨False.elim, fun h => by omega⟩
  · have hc := rFold_canon l [s] (show s.1 < s.2 by omega)
    have : (match l.foldl rStep [s] with | [o] => if o.2 ≤ o.1 then [] else [o] | out => out) = l.foldl rStep [s] := by
      split
      · rename_i o e
        rw [e] at hc
        have : o.1 < o.2 := hc
        rw [if_neg (by omega), e]
      · rfl
    rw [this]
    refine ⟨hc, fun y => ?_⟩
    rw [rFold_in, InS_cons, InS_nil]; simp

/-! ### The document's way, step by step: how many there are -/
def pieces (x : Sp) (out : List Sp) : List Sp := out.flatMap fun o => [(o.1, min o.2 x.1), (max o.1 x.2, o.2)]
theorem pieces_append (x : Sp) (a b : List Sp) : pieces x (a ++ b) = pieces x a ++ pieces x b := by unfold pieces; rw [List.flatMap_append]
theorem pieces_one (x o : Sp) : pieces x [o] = [(o.1, min o.2 x.1), (max o.1 x.2, o.2)] := rfl
theorem pieces_length (x : Sp) (l : List Sp) : (pieces x l).length = 2 * l.length := by
  induction l with
  | nil => rfl
  | cons o r ih => rw [show o :: r = [o] ++ r from rfl, pieces_append, List.length_append, ih, pieces_one]; simp; omega
theorem rCut_pieces (out : List Sp) (x : Sp) : rCut out x = (pieces x out).filter fun o => !emp o := rfl
theorem rCut_low (r : List Sp) (x : Sp) (h : ∀ t, t ∈ r → x.1 ≤ t.1) : (rCut r x).length ≤ r.length := by
  induction r with
  | nil => exact Nat.le_refl _
  | cons o r ih =>
    rw [rCut_cons]
    have h1 := h o (List.mem_cons_self ..)
    have h2 := ih (fun t ht => h t (List.mem_cons_of_mem _ ht))
    rw [if_pos (by omega)]
    simp only [List.nil_append, List.length_append, List.length_cons]
    split <;> simp <;> omega
theorem rCut_length (out : List Sp) (x : Sp) (hc : Canon out) (hx : x.1 < x.2) : (rCut out x).length ≤ out.length + 1 := by
  induction out with
  | nil => exact Nat.zero_le _
  | cons o r ih =>
    have h1 := ih hc.tail
    rw [rCut_cons]
    simp only [List.length_append, List.length_cons]
    by_cases g1 : min o.2 x.1 ≤ o.1
    · rw [if_pos g1]; split <;> simp <;> omega
    · by_cases g2 : o.2 ≤ max o.1 x.2
      · rw [if_pos g2, if_neg g1]; simp; omega
      · have := rCut_low r x (fun t ht => by have := hc.above t ht; omega)
        rw [if_neg g1, if_neg g2]; simp; omega
theorem rFold_length (l : List Sp) (s : Sp) : (l.foldl rStep [s]).length ≤ l.length + 1 := by
  by_cases h : s.2 ≤ s.1
  · rcases rFold_none l s h with e | e <;> rw [e] <;> simp
  · have go : ∀ (l out : List Sp), Canon out → (l.foldl rStep out).length ≤ out.length + l.length := by
      intro l
      induction l with
      | nil => intro out _; simp
      | cons x r ih =>
        intro out hc
        rw [List.foldl_cons]
        by_cases h : x.2 ≤ x.1
        · rw [show rStep out x = out from if_pos h]
          have := ih out hc; simp; omega
        · rw [show rStep out x = rCut out x from if_neg h]
          have := ih _ (rCut_canon out x hc (by omega))
          have := rCut_length out x hc (by omega)
          simp; omega
    have := go l [s] (show s.1 < s.2 by omega)
    simp at this; omega
theorem rLess_eq (s : Sp) (l : List Sp) : (∃ o, l.foldl rStep [s] = [o] ∧ o.2 ≤ o.1 ∧ rLess s l = []) ∨ ((∀ o, l.foldl rStep [s] = [o] → ¬ o.2 ≤ o.1) ∧ rLess s l = l.foldl rStep [s]) := by
  unfold rLess
  split
  · rename_i o e
    by_cases h : o.2 ≤ o.1
    · left; exact ⟨o, e, h, by rw [if_pos h]⟩
    · right; rw [if_neg h, e]; exact ⟨fun o' e' => by cases e'; exact h, rfl⟩
  · rename_i h
    exact .inr ⟨fun o e => absurd e (h o), rfl⟩

/-- What the program leaves is what the document leaves. -/
theorem left_eq (s : Sp) (l l' : List Sp) (hr : Rising l') (hm : ∀ x, x ∈ l' ↔ x ∈ l ∧ x.1 < x.2) : leftS s l' = rLess s l := by
  have hn : ∀ x, x ∈ l' → x.1 < x.2 := fun x hx => ((hm x).1 hx).2
  refine Canon.unique (leftS_canon s l' hr hn) (rLess_canon s l).1 fun y => ?_
  rw [leftS_in s l' hr hn, (rLess_canon s l).2]
  have : InS l' y ↔ InS l y := by
    constructor
    · rintro ⟨t, ht, h⟩; exact ⟨t, ((hm t).1 ht).1, h⟩
    · rintro ⟨t, ht, h⟩; exact ⟨t, (hm t).2 ⟨ht, by omega⟩, h⟩
  rw [this]

/-! ### Number by number -/
theorem has_meet (a b : Sp) (x : Int) : hasS (meetS a b) x = (hasS a x && hasS b x) := by
  rw [Bool.eq_iff_iff]
  unfold hasS meetS
  simp only [decide_eq_true_eq, Bool.and_eq_true]
  split
  · simp only; omega
  · simp only; omega

theorem hullStep_grows (o s : Sp) : (o.1 < o.2 → (hullStep o s).1 ≤ o.1 ∧ o.2 ≤ (hullStep o s).2) ∧ (s.1 < s.2 → (hullStep o s).1 ≤ s.1 ∧ s.2 ≤ (hullStep o s).2) := by
  unfold hullStep
  split
  · exact ⟨fun _ => ⟨Int.le_refl _, Int.le_refl _⟩, fun h => by omega⟩
  · split
    · rename_i h e
      rw [e]
      exact ⟨fun h => by simp at h, fun _ => ⟨Int.le_refl _, Int.le_refl _⟩⟩
    · exact ⟨fun _ => by simp only; omega, fun _ => by simp only; omega⟩
theorem hull_fold_grows (l : List Sp) (o : Sp) (ho : o = (0, 0) ∨ o.1 < o.2) : (o.1 < o.2 → (l.foldl hullStep o).1 ≤ o.1 ∧ o.2 ≤ (l.foldl hullStep o).2) ∧ ∀ s, s ∈ l → s.1 < s.2 → (l.foldl hullStep o).1 ≤ s.1 ∧ s.2 ≤ (l.foldl hullStep o).2 := by
  induction l generalizing o with
  | nil => exact ⟨fun _ => ⟨Int.le_refl _, Int.le_refl _⟩, fun s hs => (by cases hs)⟩
  | cons x r ih =>
    have h1 := hullStep_grows o x
    have h2 := (hullStep_or o x ho).2
    have h3 := ih (hullStep o x) h2
    rw [List.foldl_cons]
    refine ⟨fun h => ?_, fun s hs h => ?_⟩
    · have a := h1.1 h
      have b := h3.1 (by omega)
      omega
    · rcases List.mem_cons.1 hs with rfl | hs
      · have a := h1.2 h
        have b := h3.1 (by omega)
        omega
      · exact h3.2 s hs h
theorem hull_has (l : List Sp) (x : Int) (h : ∃ s, s ∈ l ∧ hasS s x = true) : hasS (hullS l) x = true := by
  obtain ⟨s, hs, hx⟩ := h
  unfold hasS at hx ⊢
  simp only [decide_eq_true_eq] at hx ⊢
  have := (hull_fold_grows l (0, 0) (.inl rfl)).2 s hs (by omega)
  unfold hullS
  omega
def withinS (a b : Sp) : Bool := decide (a.2 ≤ a.1) || (decide (b.1 ≤ a.1) && decide (a.2 ≤ b.2))
theorem hull_within (l : List Sp) (s : Sp) (hs : s ∈ l) : withinS s (hullS l) = true := by
  unfold withinS
  by_cases h : s.2 ≤ s.1
  · simp [h]
  · have := (hull_fold_grows l (0, 0) (.inl rfl)).2 s hs (by omega)
    have e : hullS l = l.foldl hullStep (0, 0) := rfl
    rw [e]
    simp [this.1, this.2]

/-! ### Lengths -/
def tot (l : List Sp) : Int := (l.map lenS).sum
theorem tot_nil : tot [] = 0 := rfl
theorem tot_cons (s : Sp) (l : List Sp) : tot (s :: l) = lenS s + tot l := by simp [tot]
theorem tot_append (a b : List Sp) : tot (a ++ b) = tot a + tot b := by simp [tot]
theorem lenS_nonneg (s : Sp) : 0 ≤ lenS s := by unfold lenS; split <;> omega
theorem tot_nonneg (l : List Sp) : 0 ≤ tot l := by
  induction l with
  | nil => exact Int.le_refl _
  | cons s r ih => have := lenS_nonneg s; rw [tot_cons]; omega
theorem tot_perm {a b : List Sp} (h : a.Perm b) : tot a = tot b := by
  induction h with
  | nil => rfl
  | cons x _ ih => rw [tot_cons, tot_cons, ih]
  | swap x y l => rw [tot_cons, tot_cons, tot_cons, tot_cons]; omega
  | trans _ _ a b => exact a.trans b

theorem lenS_meet (a b : Sp) : lenS (meetS a b) = if a.2 ≤ a.1 ∨ b.2 ≤ b.1 ∨ min a.2 b.2 ≤ max a.1 b.1 then 0 else min a.2 b.2 - max a.1 b.1 := by
  unfold meetS
  split
  · rfl
  · unfold lenS; simp only; split <;> omega

/-- Two spans that are apart. -/
def ApartS (a b : Sp) : Prop := meetS a b = (0, 0)
theorem apart_iff (a b : Sp) : ApartS a b ↔ lenS (meetS a b) = 0 := by
  rw [lenS_meet]
  unfold ApartS meetS
  split
  · simp
  · constructor
    · intro h
      simp only [Prod.mk.injEq] at h
      omega
    · intro h; omega
theorem apart_symm {a b : Sp} (h : ApartS a b) : ApartS b a := by
  rw [apart_iff, lenS_meet] at h ⊢
  split at h
  · rw [if_pos (by omega)]
  · omega

theorem tot_left (s : Sp) (l : List Sp) (hr : Rising l) (hn : ∀ x, x ∈ l → x.1 < x.2) (ha : l.Pairwise ApartS) : tot (leftS s l) + tot (l.map (meetS s)) = lenS s := by
  induction l generalizing s with
  | nil =>
    unfold leftS lenS
    split
    · simp [tot]
    · rename_i h; simp [tot, lenS]; omega
  | cons x r ih =>
    have hx := hn x (List.mem_cons_self ..)
    have ab := hr.above
    obtain ⟨a1, a2⟩ := List.pairwise_cons.1 ha
    have h1 := ih (max s.1 x.2, s.2) hr.tail (fun y hy => hn y (List.mem_cons_of_mem _ hy)) a2
    have e : r.map (fun y => lenS (meetS (max s.1 x.2, s.2) y)) = r.map (fun y => lenS (meetS s y)) := by
      refine List.map_congr_left fun y hy => ?_
      have b1 := ab y hy
      have b2 := hn y (List.mem_cons_of_mem _ hy)
      have b3 := (apart_iff _ _).1 (a1 y hy)
      rw [lenS_meet] at b3 ⊢
      rw [lenS_meet]
      split at b3
      · simp only
        split <;> split <;> omega
      · omega
    have e2 : tot (r.map (meetS (max s.1 x.2, s.2))) = tot (r.map (meetS s)) := by
      unfold tot
      rw [List.map_map, List.map_map]
      exact congrArg List.sum e
    rw [e2] at h1
    rw [leftS, tot_append, List.map_cons, tot_cons]
    have h2 : lenS (max s.1 x.2, s.2) + lenS (meetS s x) + tot (if min x.1 s.2 ≤ s.1 then [] else [(s.1, min x.1 s.2)]) = lenS s := by
      rw [lenS_meet]
      unfold lenS
      simp only
      split <;> split <;> split <;> split <;> (try simp only [tot, List.map_nil, List.map_cons, List.sum_nil, List.sum_cons, lenS]) <;> (try split) <;> omega
    omega

/-- Of others that are apart from each other: what is left, and what meets each, make the length. -/
theorem tot_less (s : Sp) (l : List Sp) (ha : l.Pairwise ApartS) : tot (rLess s l) + tot (l.map (meetS s)) = lenS s := by
  let l1 := l.filter fun x => !emp x
  let l2 := l1.mergeSort fun a b => decide (a.1 ≤ b.1)
  have hp : l2.Perm l1 := List.mergeSort_perm _ _
  have hpw : l2.Pairwise fun a b => decide (a.1 ≤ b.1) = true := List.pairwise_mergeSort (fun a b c h1 h2 => by simp at *; omega) (fun a b => by simp; omega) l1
  have hr : ∀ l : List Sp, (l.Pairwise fun a b => decide (a.1 ≤ b.1) = true) → Rising l := by
    intro l h
    induction h with
    | nil => trivial
    | @cons a l h1 _ ih =>
      cases l with
      | nil => trivial
      | cons b r => exact ⟨by simpa using h1 b (List.mem_cons_self ..), ih⟩
  have hm1 : ∀ x, x ∈ l1 ↔ x ∈ l ∧ x.1 < x.2 := fun x => by
    show x ∈ l.filter _ ↔ _
    rw [List.mem_filter]
    unfold emp
    simp
  have hm : ∀ x, x ∈ l2 ↔ x ∈ l ∧ x.1 < x.2 := fun x => (hp.mem_iff).trans (hm1 x)
  have ha2 : l2.Pairwise ApartS := hp.symm.pairwise (ha.filter _) (fun h => apart_symm h)
  have h1 := tot_left s l2 (hr l2 hpw) (fun x hx => ((hm x).1 hx).2) ha2
  rw [left_eq s l l2 (hr l2 hpw) hm, tot_perm (hp.map (meetS s))] at h1
  have h2 : ∀ l : List Sp, tot ((l.filter fun x => !emp x).map (meetS s)) = tot (l.map (meetS s)) := by
    intro l
    induction l with
    | nil => rfl
    | cons x r ih =>
      rw [List.filter_cons]
      by_cases hx : x.2 ≤ x.1
      · have e : lenS (meetS s x) = 0 := by rw [lenS_meet, if_pos (by omega)]
        simp only [emp, hx, decide_true, Bool.not_true, Bool.false_eq_true, if_false, List.map_cons, tot_cons, e]
        rw [show tot (r.map (meetS s)) = tot ((r.filter fun x => !emp x).map (meetS s)) from ih.symm]
        simp [emp]
      · simp only [emp, hx, decide_false, Bool.not_false, if_true, List.map_cons, tot_cons]
        rw [show tot (r.map (meetS s)) = tot ((r.filter fun x => !emp x).map (meetS s)) from ih.symm]
        rfl
  rw [h2] at h1
  exact h1

end Go.Proofs.Spn
