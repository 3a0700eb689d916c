/-
  Choices of pages as spans: what a choice is, spans put in order and joined, what is put, taken off, in both, of others: plain mathematics, no program in sight.
-/
import Derived.Test.YtbbaaaomncegiaaGreatDoorSpn
namespace Go.Proofs.Rng
open Go.Proofs.Spn

abbrev wholeS : Sp := (1, 1000000)

/-! ### A choice -/
def May (l : List Sp) : Prop := Canon l ∧ ∀ s, s ∈ l → 1 ≤ s.1 ∧ s.2 ≤ 1000000
def nextB (s : Sp) : List Sp → Bool
  | [] => true
  | t :: _ => decide (s.2 < t.1)
def mayB : List Sp → Bool
  | [] => true
  | s :: r => decide (s.1 < s.2) && decide (1 ≤ s.1) && decide (s.2 ≤ 1000000) && nextB s r && mayB r
theorem may_nil : May [] := ⟨trivial, fun _ h => by cases h⟩
theorem mayB_iff (l : List Sp) : mayB l = true ↔ May l := by
  induction l with
  | nil => exact ⟨fun _ => may_nil, fun _ => rfl⟩
  | cons s r ih =>
    rw [mayB]
    simp only [Bool.and_eq_true, decide_eq_true_eq, ih]
    cases r with
    | nil =>
      simp only [nextB, and_true]
      constructor
      · rintro ⟨⟨⟨h1, h2⟩, h3⟩, _⟩
        exact ⟨h1, fun t ht => by rw [List.mem_singleton.1 ht]; exact ⟨h2, h3⟩⟩
      · rintro ⟨h1, h2⟩
        exact ⟨⟨⟨h1, (h2 s (by simp)).1⟩, (h2 s (by simp)).2⟩, may_nil⟩
    | cons t q =>
      simp only [nextB, decide_eq_true_eq]
      constructor
      · rintro ⟨⟨⟨⟨h1, h2⟩, h3⟩, h4⟩, h5, h6⟩
        refine ⟨⟨h1, h4, h5⟩, fun u hu => ?_⟩
        rcases List.mem_cons.1 hu with rfl | hu
        · exact ⟨h2, h3⟩
        · exact h6 u hu
      · rintro ⟨⟨h1, h4, h5⟩, h6⟩
        exact ⟨⟨⟨⟨h1, (h6 s (by simp)).1⟩, (h6 s (by simp)).2⟩, h4⟩, h5, fun u hu => h6 u (List.mem_cons_of_mem _ hu)⟩
instance (l : List Sp) : Decidable (May l) := decidable_of_iff _ (mayB_iff l)
theorem mayB_no {l : List Sp} : mayB l = false ↔ ¬ May l := by rw [← mayB_iff]; simp

/-! ### Behind one another -/
theorem _root_.Go.Proofs.Spn.Canon.front {a b : List Sp} (h : Canon (a ++ b)) : Canon a := by
  induction a with
  | nil => trivial
  | cons s r ih =>
    refine Canon.cons (Canon.head (s := s) (r := r ++ b) h) (fun t ht => Canon.above (s := s) (r := r ++ b) h t (List.mem_append_left _ ht)) (ih (Canon.tail (s := s) (r := r ++ b) h))
theorem _root_.Go.Proofs.Spn.Canon.snoc_iff (pre : List Sp) (p : Sp) : Canon (pre ++ [p]) ↔ Canon pre ∧ p.1 < p.2 ∧ ∀ t, t ∈ pre → t.2 < p.1 := by
  induction pre with
  | nil => exact ⟨fun h => ⟨trivial, h, fun _ h => by cases h⟩, fun h => h.2.1⟩
  | cons s r ih =>
    constructor
    · intro h
      obtain ⟨h1, h2, h3⟩ := ih.1 (Canon.tail (s := s) (r := r ++ [p]) h)
      refine ⟨Canon.front (a := s :: r) h, h2, fun t ht => ?_⟩
      rcases List.mem_cons.1 ht with rfl | ht
      · exact Canon.above (s := t) (r := r ++ [p]) h p (by simp)
      · exact h3 t ht
    · rintro ⟨h1, h2, h3⟩
      refine Canon.cons h1.head (fun t ht => ?_) (ih.2 ⟨h1.tail, h2, fun t ht => h3 t (List.mem_cons_of_mem _ ht)⟩)
      rcases List.mem_append.1 ht with ht | ht
      · exact h1.above t ht
      · rw [List.mem_singleton.1 ht]; exact h3 s (List.mem_cons_self ..)
theorem _root_.Go.Proofs.Spn.Canon.append {a b : List Sp} (ha : Canon a) (hb : Canon b) (h : ∀ s, s ∈ a → ∀ t, t ∈ b → s.2 < t.1) : Canon (a ++ b) := by
  induction a with
  | nil => exact hb
  | cons s r ih =>
    refine Canon.cons ha.head (fun t ht => ?_) (ih ha.tail fun u hu => h u (List.mem_cons_of_mem _ hu))
    rcases List.mem_append.1 ht with ht | ht
    · exact ha.above t ht
    · exact h s (List.mem_cons_self ..) t ht
theorem May.front {a b : List Sp} (h : May (a ++ b)) : May a := ⟨Canon.front h.1, fun s hs => h.2 s (List.mem_append_left _ hs)⟩
/-- Is there room for a span behind some? -/
def behindB (l : List Sp) (x : Sp) : Bool := match l.getLast? with | none => true | some p => decide (p.2 < x.1)
theorem may_snoc (l : List Sp) (x : Sp) : mayB (l ++ [x]) = (mayB l && decide (x.1 < x.2) && decide (1 ≤ x.1) && decide (x.2 ≤ 1000000) && behindB l x) := by
  rw [Bool.eq_iff_iff]
  simp only [Bool.and_eq_true, decide_eq_true_eq, mayB_iff]
  unfold behindB
  constructor
  · rintro ⟨h1, h2⟩
    obtain ⟨c1, c2, c3⟩ := (Canon.snoc_iff l x).1 h1
    have hx := h2 x (by simp)
    refine ⟨⟨⟨⟨⟨c1, fun s hs => h2 s (List.mem_append_left _ hs)⟩, c2⟩, hx.1⟩, hx.2⟩, ?_⟩
    cases hg : l.getLast? with
    | none => rfl
    | some p => exact decide_eq_true (c3 p (List.mem_of_getLast? hg))
  · rintro ⟨⟨⟨⟨⟨c1, c2⟩, hx⟩, hx1⟩, hx2⟩, hb⟩
    refine ⟨(Canon.snoc_iff l x).2 ⟨c1, hx, fun t ht => ?_⟩, fun s hs => ?_⟩
    · rcases List.eq_nil_or_concat l with rfl | ⟨q, p, rfl⟩
      · cases ht
      · rw [List.concat_eq_append] at *
        rw [List.getLast?_append] at hb
        simp at hb
        rcases List.mem_append.1 ht with ht | ht
        · have := ((Canon.snoc_iff q p).1 c1).2.2 t ht
          have := ((Canon.snoc_iff q p).1 c1).2.1
          omega
        · rw [List.mem_singleton.1 ht]; exact hb
    · rcases List.mem_append.1 hs with hs | hs
      · exact c2 s hs
      · rw [List.mem_singleton.1 hs]; exact ⟨hx1, hx2⟩
theorem mayB_front {a b : List Sp} (h : mayB a = false) : mayB (a ++ b) = false := by
  rw [mayB_no] at *
  exact fun hm => h hm.front

/-! ### What lies within -/
theorem _root_.Go.Proofs.Spn.Canon.lo_in {l : List Sp} (h : Canon l) {t : Sp} (ht : t ∈ l) : InS l t.1 := ⟨t, ht, Int.le_refl _, h.each t ht⟩
theorem _root_.Go.Proofs.Spn.Canon.hi_in {l : List Sp} (h : Canon l) {t : Sp} (ht : t ∈ l) : InS l (t.2 - 1) := ⟨t, ht, by have := h.each t ht; omega, by omega⟩
theorem _root_.Go.Proofs.Spn.Canon.within {l : List Sp} (h : Canon l) {lo hi : Int} (hw : ∀ y, InS l y → lo ≤ y ∧ y < hi) : ∀ t, t ∈ l → lo ≤ t.1 ∧ t.2 ≤ hi := fun t ht =>
  ⟨(hw _ (h.lo_in ht)).1, by have := (hw _ (h.hi_in ht)).2; omega⟩
theorem May.of {l : List Sp} (h : Canon l) (hw : ∀ y, InS l y → 1 ≤ y ∧ y < 1000000) : May l := ⟨h, h.within hw⟩
theorem May.in_ {l : List Sp} (h : May l) {y : Int} (hy : InS l y) : 1 ≤ y ∧ y < 1000000 := by
  obtain ⟨s, hs, h1, h2⟩ := hy
  have := h.2 s hs
  omega
theorem May.unique {a b : List Sp} (ha : May a) (hb : May b) (h : ∀ y, InS a y ↔ InS b y) : a = b := Canon.unique ha.1 hb.1 h
theorem InS_mem {a b : List Sp} (h : ∀ s, s ∈ a ↔ s ∈ b) (y : Int) : InS a y ↔ InS b y :=
  ⟨fun ⟨s, hs, k⟩ => ⟨s, (h s).1 hs, k⟩, fun ⟨s, hs, k⟩ => ⟨s, (h s).2 hs, k⟩⟩
theorem InS_flat {α : Type} (l : List α) (f : α → List Sp) (y : Int) : InS (l.flatMap f) y ↔ ∃ x, x ∈ l ∧ InS (f x) y := by
  constructor
  · rintro ⟨s, hs, k⟩
    obtain ⟨x, hx, hs⟩ := List.mem_flatMap.1 hs
    exact ⟨x, hx, s, hs, k⟩
  · rintro ⟨x, hx, s, hs, k⟩
    exact ⟨s, List.mem_flatMap.2 ⟨x, hx, hs⟩, k⟩
theorem flat_canon {l : List Sp} (hl : Canon l) (f : Sp → List Sp) (hf : ∀ x, x ∈ l → Canon (f x) ∧ ∀ t, t ∈ f x → x.1 ≤ t.1 ∧ t.2 ≤ x.2) : Canon (l.flatMap f) := by
  induction l with
  | nil => trivial
  | cons s r ih =>
    rw [List.flatMap_cons]
    refine Canon.append (hf s (List.mem_cons_self ..)).1 (ih hl.tail fun x hx => hf x (List.mem_cons_of_mem _ hx)) fun t ht u hu => ?_
    obtain ⟨x, hx, hu⟩ := List.mem_flatMap.1 hu
    have h1 := ((hf s (List.mem_cons_self ..)).2 t ht).2
    have h2 := ((hf x (List.mem_cons_of_mem _ hx)).2 u hu).1
    have := hl.above x hx
    omega

/-! ### Joined -/
def addS (out : List Sp) (s : Sp) : List Sp :=
  match out.getLast? with
  | none => out ++ [s]
  | some p => if s.1 ≤ p.2 then out.dropLast ++ [(p.1, max p.2 s.2)] else out ++ [s]
def mergeS (d : List Sp) : List Sp := d.foldl addS []
theorem addS_nil (s : Sp) : addS [] s = [s] := rfl
theorem addS_snoc (pre : List Sp) (p s : Sp) : addS (pre ++ [p]) s = if s.1 ≤ p.2 then pre ++ [(p.1, max p.2 s.2)] else pre ++ [p] ++ [s] := by
  unfold addS
  rw [List.getLast?_append]
  simp
theorem addS_length (out : List Sp) (s : Sp) : (addS out s).length ≤ out.length + 1 := by
  rcases List.eq_nil_or_concat out with rfl | ⟨pre, p, rfl⟩
  · exact Nat.le_refl _
  · rw [List.concat_eq_append, addS_snoc]
    split <;> simp
theorem mergeS_length (d out : List Sp) : (d.foldl addS out).length ≤ out.length + d.length := by
  induction d generalizing out with
  | nil => exact Nat.le_refl _
  | cons s r ih =>
    rw [List.foldl_cons]
    have := ih (addS out s)
    have := addS_length out s
    simp only [List.length_cons]
    omega
/-- One span more, which begins no sooner than the last one. -/
theorem addS_canon (out : List Sp) (s : Sp) (hc : Canon out) (hl : ∀ p, out.getLast? = some p → p.1 ≤ s.1) (hs : s.1 < s.2) :
    Canon (addS out s) ∧ (∀ y, InS (addS out s) y ↔ InS out y ∨ (s.1 ≤ y ∧ y < s.2)) ∧ ∀ p, (addS out s).getLast? = some p → p.1 ≤ s.1 := by
  rcases List.eq_nil_or_concat out with rfl | ⟨pre, p, rfl⟩
  · refine ⟨hs, fun y => ?_, fun p hp => ?_⟩
    · rw [addS_nil, InS_cons]
      exact Or.comm
    · rw [addS_nil] at hp
      simp at hp
      subst hp
      exact Int.le_refl _
  · rw [List.concat_eq_append] at *
    have hp := hl p (by rw [List.getLast?_append]; rfl)
    obtain ⟨c1, c2, c3⟩ := (Canon.snoc_iff pre p).1 hc
    rw [addS_snoc]
    by_cases h : s.1 ≤ p.2
    · rw [if_pos h]
      refine ⟨(Canon.snoc_iff _ _).2 ⟨c1, by simp only; omega, c3⟩, fun y => ?_, fun q hq => ?_⟩
      · rw [InS_append, InS_append, InS_cons, InS_cons, InS_nil, or_false, or_false, or_assoc]
        refine or_congr Iff.rfl ?_
        simp only
        omega
      · rw [List.getLast?_append] at hq
        simp at hq
        subst hq
        exact hp
    · rw [if_neg h]
      refine ⟨(Canon.snoc_iff _ _).2 ⟨hc, hs, fun t ht => ?_⟩, fun y => ?_, fun q hq => ?_⟩
      · rcases List.mem_append.1 ht with ht | ht
        · have := c3 t ht; omega
        · rw [List.mem_singleton.1 ht]; omega
      · rw [InS_append (pre ++ [p]), InS_cons s [], InS_nil, or_false]
      · rw [List.getLast?_append] at hq
        simp at hq
        subst hq
        exact Int.le_refl _
theorem mergeS_fold (d out : List Sp) (hc : Canon out) (hl : ∀ p, out.getLast? = some p → ∀ s, s ∈ d → p.1 ≤ s.1) (hr : Rising d) (hn : ∀ s, s ∈ d → s.1 < s.2) :
    Canon (d.foldl addS out) ∧ ∀ y, InS (d.foldl addS out) y ↔ InS out y ∨ InS d y := by
  induction d generalizing out with
  | nil => exact ⟨hc, fun y => by rw [List.foldl_nil, InS_nil, or_false]⟩
  | cons s r ih =>
    rw [List.foldl_cons]
    obtain ⟨a1, a2, a3⟩ := addS_canon out s hc (fun p hp => hl p hp s (List.mem_cons_self ..)) (hn s (List.mem_cons_self ..))
    obtain ⟨b1, b2⟩ := ih (addS out s) a1 (fun p hp t ht => by have := a3 p hp; have := hr.above t ht; omega) hr.tail (fun t ht => hn t (List.mem_cons_of_mem _ ht))
    exact ⟨b1, fun y => by rw [b2, a2, InS_cons, or_assoc]⟩
def insA (s : Sp) : List Sp → List Sp
  | [] => [s]
  | t :: r => if s.1 ≤ t.1 then s :: t :: r else t :: insA s r
def sortA (l : List Sp) : List Sp := l.foldr insA []
theorem insA_perm (s : Sp) (l : List Sp) : (insA s l).Perm (s :: l) := by
  induction l with
  | nil => exact .refl _
  | cons t r ih =>
    unfold insA
    split
    · exact .refl _
    · exact (List.Perm.cons t ih).trans (List.Perm.swap s t r)
theorem insA_rising (s : Sp) (l : List Sp) (h : Rising l) : Rising (insA s l) := by
  have key : ∀ (l : List Sp), (∀ u, u ∈ l → ∀ v, v = u → True) → Rising l → Rising (insA s l) ∧ ∀ t : Sp, (t.1 ≤ s.1) → (∀ u, u ∈ l → t.1 ≤ u.1) → Rising (t :: insA s l) := by
    intro l
    induction l with
    | nil => exact fun _ _ => ⟨trivial, fun t ht _ => ⟨ht, trivial⟩⟩
    | cons u r ih =>
      intro _ hr
      have h1 := ih (fun _ _ _ _ => trivial) hr.tail
      unfold insA
      split
      · rename_i hle
        exact ⟨⟨hle, hr⟩, fun t ht hu => ⟨ht, hle, hr⟩⟩
      · rename_i hle
        have h2 := h1.2 u (by omega) (fun v hv => hr.above v hv)
        exact ⟨h2, fun t ht hu => ⟨hu u (List.mem_cons_self ..), h2⟩⟩
  exact (key l (fun _ _ _ _ => trivial) h).1
theorem sortA_perm (l : List Sp) : (sortA l).Perm l := by
  induction l with
  | nil => exact .refl _
  | cons s r ih => exact (insA_perm s _).trans (ih.cons s)
theorem sortA_rising (l : List Sp) : Rising (sortA l) := by
  induction l with
  | nil => trivial
  | cons s r ih => exact insA_rising s _ ih
/-- Spans, put in order, those that meet, or are side by side, as one. -/
def joinS (l : List Sp) : List Sp := mergeS (sortA (l.filter fun s => !emp s))
theorem filled {l : List Sp} {s : Sp} : (s ∈ l.filter fun s => !emp s) ↔ s ∈ l ∧ s.1 < s.2 := by
  rw [List.mem_filter]
  unfold emp
  simp
theorem InS_filled (l : List Sp) (y : Int) : InS (l.filter fun s => !emp s) y ↔ InS l y := by
  constructor
  · rintro ⟨s, hs, k⟩; exact ⟨s, (filled.1 hs).1, k⟩
  · rintro ⟨s, hs, k⟩; exact ⟨s, filled.2 ⟨hs, by omega⟩, k⟩
theorem merge_any {d l : List Sp} (hp : d.Perm (l.filter fun s => !emp s)) (hr : Rising d) : Canon (mergeS d) ∧ ∀ y, InS (mergeS d) y ↔ InS l y := by
  have hn : ∀ s, s ∈ d → s.1 < s.2 := fun s hs => (filled.1 (hp.mem_iff.1 hs)).2
  obtain ⟨h1, h2⟩ := mergeS_fold d [] trivial (fun p hp => by cases hp) hr hn
  refine ⟨h1, fun y => ?_⟩
  show InS (d.foldl addS []) y ↔ _
  rw [h2, InS_nil, false_or, ← InS_filled l]
  exact InS_mem (fun s => hp.mem_iff) y
theorem joinS_canon (l : List Sp) : Canon (joinS l) ∧ ∀ y, InS (joinS l) y ↔ InS l y := merge_any (sortA_perm _) (sortA_rising _)
theorem joinS_of {d l : List Sp} (hp : d.Perm (l.filter fun s => !emp s)) (hr : Rising d) : mergeS d = joinS l :=
  Canon.unique (merge_any hp hr).1 (joinS_canon l).1 fun y => by rw [(merge_any hp hr).2, (joinS_canon l).2]
theorem joinS_length (l : List Sp) : (joinS l).length ≤ l.length := by
  have h1 := mergeS_length (sortA (l.filter fun s => !emp s)) []
  have h2 := (sortA_perm (l.filter fun s => !emp s)).length_eq
  have h3 := List.length_filter_le (fun s => !emp s) l
  unfold joinS mergeS
  simp only [List.length_nil] at h1
  omega

/-! ### What is made of choices -/
def putS (l : List Sp) (s : Sp) : List Sp := if mayB l then joinS (l ++ [meetS s wholeS]) else []
def takeS (l : List Sp) (s : Sp) : List Sp := if mayB l then l.flatMap fun x => rLess x [s] else []
def bothS (a b : List Sp) : List Sp := if mayB a && mayB b then a.flatMap fun x => joinS (b.map fun y => meetS x y) else []
def othersS (l : List Sp) : List Sp := if mayB l then rLess wholeS l else []
def hasL (l : List Sp) (y : Int) : Bool := mayB l && l.any fun s => hasS s y
def ofS (ns : List Int) : List Sp := joinS ((ns.filter fun n => hasS wholeS n).map fun n => (n, n + 1))

theorem any_has (l : List Sp) (y : Int) : (l.any fun s => hasS s y) = true ↔ InS l y := by
  rw [List.any_eq_true]
  unfold hasS InS
  simp only [decide_eq_true_eq]
theorem hasL_iff {l : List Sp} (h : May l) (y : Int) : hasL l y = true ↔ InS l y := by
  unfold hasL
  rw [(mayB_iff l).2 h, Bool.true_and, any_has]
theorem InS_one (s : Sp) (y : Int) : InS [s] y ↔ s.1 ≤ y ∧ y < s.2 := by rw [InS_cons, InS_nil, or_false]
theorem in_meet (a b : Sp) (y : Int) : ((meetS a b).1 ≤ y ∧ y < (meetS a b).2) ↔ (a.1 ≤ y ∧ y < a.2) ∧ (b.1 ≤ y ∧ y < b.2) := by
  have h := has_meet a b y
  rw [Bool.eq_iff_iff] at h
  unfold hasS at h
  simpa only [decide_eq_true_eq, Bool.and_eq_true] using h

theorem put_in {l : List Sp} (h : May l) (s : Sp) (y : Int) : InS (putS l s) y ↔ InS l y ∨ ((s.1 ≤ y ∧ y < s.2) ∧ 1 ≤ y ∧ y < 1000000) := by
  unfold putS
  rw [if_pos ((mayB_iff l).2 h), (joinS_canon _).2, InS_append, InS_one, in_meet]
theorem put_may {l : List Sp} (h : May l) (s : Sp) : May (putS l s) := by
  refine May.of ?_ fun y hy => ?_
  · unfold putS
    rw [if_pos ((mayB_iff l).2 h)]
    exact (joinS_canon _).1
  · rcases (put_in h s y).1 hy with hy | hy
    · exact h.in_ hy
    · exact hy.2
theorem take_in {l : List Sp} (h : May l) (s : Sp) (y : Int) : InS (takeS l s) y ↔ InS l y ∧ ¬ (s.1 ≤ y ∧ y < s.2) := by
  unfold takeS
  rw [if_pos ((mayB_iff l).2 h), InS_flat]
  constructor
  · rintro ⟨x, hx, hy⟩
    obtain ⟨h1, h2⟩ := ((rLess_canon x [s]).2 y).1 hy
    rw [InS_one] at h2
    exact ⟨⟨x, hx, h1⟩, h2⟩
  · rintro ⟨⟨x, hx, h1⟩, h2⟩
    refine ⟨x, hx, ((rLess_canon x [s]).2 y).2 ⟨h1, ?_⟩⟩
    rw [InS_one]
    exact h2
theorem take_may {l : List Sp} (h : May l) (s : Sp) : May (takeS l s) := by
  refine May.of ?_ fun y hy => h.in_ ((take_in h s y).1 hy).1
  unfold takeS
  rw [if_pos ((mayB_iff l).2 h)]
  refine flat_canon h.1 _ fun x _ => ⟨(rLess_canon x [s]).1, ?_⟩
  exact (rLess_canon x [s]).1.within fun y hy => (((rLess_canon x [s]).2 y).1 hy).1
theorem both_one (b : List Sp) (x : Sp) (y : Int) : InS (joinS (b.map fun z => meetS x z)) y ↔ (x.1 ≤ y ∧ y < x.2) ∧ InS b y := by
  rw [(joinS_canon _).2]
  constructor
  · rintro ⟨t, ht, k⟩
    obtain ⟨z, hz, rfl⟩ := List.mem_map.1 ht
    obtain ⟨k1, k2⟩ := (in_meet x z y).1 k
    exact ⟨k1, z, hz, k2⟩
  · rintro ⟨k1, z, hz, k2⟩
    exact ⟨_, List.mem_map.2 ⟨z, hz, rfl⟩, (in_meet x z y).2 ⟨k1, k2⟩⟩
theorem both_in {a b : List Sp} (ha : May a) (hb : May b) (y : Int) : InS (bothS a b) y ↔ InS a y ∧ InS b y := by
  unfold bothS
  rw [if_pos (by rw [(mayB_iff a).2 ha, (mayB_iff b).2 hb]; rfl), InS_flat]
  constructor
  · rintro ⟨x, hx, hy⟩
    obtain ⟨h1, h2⟩ := (both_one b x y).1 hy
    exact ⟨⟨x, hx, h1⟩, h2⟩
  · rintro ⟨⟨x, hx, h1⟩, h2⟩
    exact ⟨x, hx, (both_one b x y).2 ⟨h1, h2⟩⟩
theorem both_may {a b : List Sp} (ha : May a) (hb : May b) : May (bothS a b) := by
  refine May.of ?_ fun y hy => ha.in_ ((both_in ha hb y).1 hy).1
  unfold bothS
  rw [if_pos (by rw [(mayB_iff a).2 ha, (mayB_iff b).2 hb]; rfl)]
  refine flat_canon ha.1 _ fun x _ => ⟨(joinS_canon _).1, ?_⟩
  exact (joinS_canon _).1.within fun y hy => ((both_one b x y).1 hy).1
theorem others_in {l : List Sp} (h : May l) (y : Int) : InS (othersS l) y ↔ (1 ≤ y ∧ y < 1000000) ∧ ¬ InS l y := by
  unfold othersS
  rw [if_pos ((mayB_iff l).2 h), (rLess_canon _ _).2]
theorem others_may {l : List Sp} (h : May l) : May (othersS l) := by
  refine May.of ?_ fun y hy => ((others_in h y).1 hy).1
  unfold othersS
  rw [if_pos ((mayB_iff l).2 h)]
  exact (rLess_canon _ _).1
theorem of_in (ns : List Int) (y : Int) : InS (ofS ns) y ↔ y ∈ ns ∧ 1 ≤ y ∧ y < 1000000 := by
  unfold ofS
  rw [(joinS_canon _).2]
  constructor
  · rintro ⟨t, ht, k⟩
    obtain ⟨n, hn, rfl⟩ := List.mem_map.1 ht
    obtain ⟨hn, hw⟩ := List.mem_filter.1 hn
    unfold hasS at hw
    simp only [decide_eq_true_eq] at hw k
    obtain rfl : n = y := by omega
    exact ⟨hn, hw⟩
  · rintro ⟨hn, hw⟩
    refine ⟨_, List.mem_map.2 ⟨y, List.mem_filter.2 ⟨hn, ?_⟩, rfl⟩, by simp only; omega⟩
    unfold hasS
    simp only [decide_eq_true_eq]
    exact hw
theorem of_may (ns : List Int) : May (ofS ns) := May.of (joinS_canon _).1 fun y hy => ((of_in ns y).1 hy).2

/-! ### How many there are -/
theorem flat_length {α β : Type} (l : List α) (f : α → List β) (k : Nat) (h : ∀ x, x ∈ l → (f x).length ≤ k) : (l.flatMap f).length ≤ l.length * k := by
  induction l with
  | nil => simp
  | cons s r ih =>
    rw [List.flatMap_cons, List.length_append, List.length_cons, Nat.add_mul, Nat.one_mul]
    have h1 := h s (List.mem_cons_self ..)
    have h2 := ih fun x hx => h x (List.mem_cons_of_mem _ hx)
    omega
theorem rLess_length (s : Sp) (l : List Sp) : (rLess s l).length ≤ l.length + 1 := by
  have h := rFold_length l s
  rcases rLess_eq s l with ⟨o, _, _, e⟩ | ⟨_, e⟩
  · rw [e]; exact Nat.zero_le _
  · rw [e]; exact h
theorem put_length (l : List Sp) (s : Sp) : (putS l s).length ≤ l.length + 1 := by
  unfold putS
  split
  · have := joinS_length (l ++ [meetS s wholeS])
    simpa using this
  · exact Nat.zero_le _
theorem take_length (l : List Sp) (s : Sp) : (takeS l s).length ≤ l.length * 2 := by
  unfold takeS
  split
  · exact flat_length l _ 2 fun x _ => rLess_length x [s]
  · exact Nat.zero_le _
theorem both_length (a b : List Sp) : (bothS a b).length ≤ a.length * b.length := by
  unfold bothS
  split
  · exact flat_length a _ b.length fun x _ => by have := joinS_length (b.map fun y => meetS x y); simpa using this
  · exact Nat.zero_le _
theorem others_length (l : List Sp) : (othersS l).length ≤ l.length + 1 := by
  unfold othersS
  split
  · exact rLess_length _ _
  · exact Nat.zero_le _
theorem of_length (ns : List Int) : (ofS ns).length ≤ ns.length := by
  have h1 := joinS_length ((ns.filter fun n => hasS wholeS n).map fun n => (n, n + 1))
  have h2 := List.length_filter_le (fun n => hasS wholeS n) ns
  unfold ofS
  rw [List.length_map] at h1
  omega
end Go.Proofs.Rng
