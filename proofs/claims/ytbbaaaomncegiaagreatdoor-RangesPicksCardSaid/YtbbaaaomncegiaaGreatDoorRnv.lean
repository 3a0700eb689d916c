/-
  The laws of a choice's numbers in plain Lean: what a choice has after Put, Take, Both, Others; Others twice; Both either way round.
-/
import Derived.Test.YtbbaaaomncegiaaGreatDoorRna
namespace Go.Proofs.Rng
open Go.Proofs.Spn

theorem has_eq {l : List Sp} (h : May l) {y : Int} {b : Bool} (hb : InS l y ↔ b = true) : hasL l y = b := by
  rw [Bool.eq_iff_iff, hasL_iff h, hb]
theorem has_range {l : List Sp} (h : May l) {y : Int} (hy : hasL l y = true) : 1 ≤ y ∧ y ≤ 999999 := by
  have := h.in_ ((hasL_iff h y).1 hy)
  omega
def inB (y : Int) : Bool := decide (1 ≤ y) && decide (y ≤ 999999)
theorem inB_iff (y : Int) : inB y = true ↔ 1 ≤ y ∧ y < 1000000 := by
  unfold inB
  simp only [Bool.and_eq_true, decide_eq_true_eq]
  omega
theorem put_has {l : List Sp} (h : May l) (s : Sp) (y : Int) : hasL (putS l s) y = (inB y && (hasL l y || hasS s y)) := by
  refine has_eq (put_may h s) ?_
  rw [put_in h, Bool.and_eq_true, Bool.or_eq_true, hasL_iff h, inB_iff]
  have hs : hasS s y = true ↔ s.1 ≤ y ∧ y < s.2 := by unfold hasS; simp
  rw [hs]
  constructor
  · rintro (h1 | ⟨h1, h2⟩)
    · exact ⟨h.in_ h1, Or.inl h1⟩
    · exact ⟨h2, Or.inr h1⟩
  · rintro ⟨h1, h2 | h2⟩
    · exact Or.inl h2
    · exact Or.inr ⟨h2, h1⟩
theorem take_has {l : List Sp} (h : May l) (s : Sp) (y : Int) : hasL (takeS l s) y = (hasL l y && !hasS s y) := by
  refine has_eq (take_may h s) ?_
  have hs : hasS s y = true ↔ s.1 ≤ y ∧ y < s.2 := by unfold hasS; simp
  rw [take_in h, Bool.and_eq_true, Bool.not_eq_true', ← Bool.not_eq_true, hasL_iff h, hs]
theorem both_has {a b : List Sp} (ha : May a) (hb : May b) (y : Int) : hasL (bothS a b) y = (hasL a y && hasL b y) := by
  refine has_eq (both_may ha hb) ?_
  rw [both_in ha hb, Bool.and_eq_true, hasL_iff ha, hasL_iff hb]
theorem others_has {l : List Sp} (h : May l) (y : Int) : hasL (othersS l) y = (inB y && !hasL l y) := by
  refine has_eq (others_may h) ?_
  rw [others_in h, Bool.and_eq_true, Bool.not_eq_true', ← Bool.not_eq_true, hasL_iff h, inB_iff]
theorem others_others {l : List Sp} (h : May l) : othersS (othersS l) = l := by
  refine (others_may (others_may h)).unique h fun y => ?_
  rw [others_in (others_may h), others_in h]
  constructor
  · rintro ⟨h1, h2⟩
    by_cases h3 : InS l y
    · exact h3
    · exact absurd ⟨h1, h3⟩ h2
  · intro h1
    exact ⟨h.in_ h1, fun h2 => h2.2 h1⟩
theorem both_comm {a b : List Sp} (ha : May a) (hb : May b) : bothS b a = bothS a b :=
  (both_may hb ha).unique (both_may ha hb) fun y => by rw [both_in hb ha, both_in ha hb, and_comm]
theorem take_put {l : List Sp} (h : May l) (s : Sp) : takeS (putS l s) s = takeS l s :=
  (take_may (put_may h s) s).unique (take_may h s) fun y => by
    rw [take_in (put_may h s), put_in h, take_in h]
    constructor
    · rintro ⟨h1 | ⟨h1, _⟩, h2⟩
      · exact ⟨h1, h2⟩
      · exact absurd h1 h2
    · rintro ⟨h1, h2⟩
      exact ⟨Or.inl h1, h2⟩
theorem or_has {a b : List Sp} (ha : May a) (hb : May b) (y : Int) : hasL (othersS (bothS (othersS a) (othersS b))) y = (hasL a y || hasL b y) := by
  rw [others_has (both_may (others_may ha) (others_may hb)), both_has (others_may ha) (others_may hb), others_has ha, others_has hb]
  have h1 : hasL a y = true → inB y = true := fun h => (inB_iff y).2 (ha.in_ ((hasL_iff ha y).1 h))
  have h2 : hasL b y = true → inB y = true := fun h => (inB_iff y).2 (hb.in_ ((hasL_iff hb y).1 h))
  revert h1 h2
  generalize hasL a y = p
  generalize hasL b y = q
  generalize inB y = r
  cases p <;> cases q <;> cases r <;> simp
end Go.Proofs.Rng
