/-
  Leaves: plain mathematics.
-/
import Derived.Test.YthiplocjiamahaaShx
namespace Go.Proofs.Shs

theorem place_two (s c j : Nat) (hs : 1 ≤ s) (hj : j % 2 = 0) (hjc : j + 1 < 4 * c) : (placeOf s c j).1 = (placeOf s c (j + 1)).1 ∧ (placeOf s c j).2.1 ≠ (placeOf s c (j + 1)).2.1 ∧ (placeOf s c j).2.2 ≠ (placeOf s c (j + 1)).2.2 := by
  have m1 := Nat.div_add_mod j (4 * s)
  have m2 := Nat.mod_lt j (show 0 < 4 * s by omega)
  have e0 : 4 * s * (j / (4 * s)) = 4 * (s * (j / (4 * s))) := Nat.mul_assoc _ _ _
  have e1 : (j + 1) / (4 * s) = j / (4 * s) := by
    have hx : j % (4 * s) + 1 < 4 * s := by rw [e0] at m1; omega
    have : j + 1 = 4 * s * (j / (4 * s)) + (j % (4 * s) + 1) := by omega
    rw [this, Nat.mul_add_div (by omega), Nat.div_eq_of_lt hx, Nat.add_zero]
  unfold placeOf
  simp only [e1]
  have e2 : j / (4 * s) * (4 * s) = 4 * (s * (j / (4 * s))) := by rw [Nat.mul_comm, Nat.mul_assoc]
  have e3 : j / (4 * s) * s = s * (j / (4 * s)) := Nat.mul_comm _ _
  rw [e2, e3]
  rw [e0] at m1
  generalize s * (j / (4 * s)) = f at *
  generalize j % (4 * s) = x at *
  obtain ⟨k, hk⟩ : ∃ k, min s (c - f) = k := ⟨_, rfl⟩
  rw [hk]
  have hx : x < 4 * k := by omega
  have a1 : j - 4 * f = x := by omega
  have a2 : j + 1 - 4 * f = x + 1 := by omega
  rw [a1, a2]
  by_cases h1 : 4 * k - 1 - x < x
  · rw [if_pos h1, if_pos (by omega)]
    simp only
    omega
  · rw [if_neg h1, if_neg (by omega)]
    simp only
    omega

theorem leaf_at (s N j : Nat) (hs : 1 ≤ s) (hj : j % 2 = 0) (hjn : j + 1 < N) :
    (bkAt s N j).sheet = (bkAt s N ((j + 1 : Nat) : Int)).sheet ∧ (bkAt s N j).side ≠ (bkAt s N ((j + 1 : Nat) : Int)).side ∧ (bkAt s N j).col ≠ (bkAt s N ((j + 1 : Nat) : Int)).col := by
  rw [bk_place s N j hs (by omega), bk_place s N (j + 1) hs (by omega)]
  obtain ⟨h1, h2, h3⟩ := place_two s ((N + 4 - 1) / 4) j hs hj (by omega)
  simp only
  omega

/-- Two slots of one side. -/
theorem side_two (s N j : Nat) (hs : 1 ≤ s) (hj : j % 2 = 0) (hjc : j + 1 < 4 * ((N + 3) / 4)) :
    ∃ (t d f k : Nat) (X Y : Nat), bookAt s ((N + 3) / 4) N j = ⟨t, d, 0, 0, pg N X⟩ ∧ bookAt s ((N + 3) / 4) N (j + 1) = ⟨t, d, 0, 1, pg N Y⟩ ∧ k ≤ s ∧ k = min s ((N - f + 3) / 4) ∧ f < N ∧ X + Y = 2 * f + 4 * k - 1 ∧ X % (4 * s) = X - f ∧ f ≤ X ∧ (d = 1 ∧ Y ≤ X ∨ d = 2 ∧ X ≤ Y) := by
  obtain ⟨c, hc⟩ : ∃ c, (N + 3) / 4 = c := ⟨_, rfl⟩
  rw [hc] at hjc ⊢
  have ht : j / 4 < c := by omega
  obtain ⟨h1, h2, h3, h4⟩ := book_facts s c (j / 4) hs ht
  have hk : many s c (j / 4) = min s (c - j / 4 / s * s) := rfl
  have hmod : ∀ x, x < 4 * s → (4 * (j / 4 / s * s) + x) % (4 * s) = x := fun x hx => by
    rw [show 4 * (j / 4 / s * s) = 4 * s * (j / 4 / s) by rw [Nat.mul_comm (j / 4 / s) s, Nat.mul_assoc], Nat.mul_add_mod, Nat.mod_eq_of_lt hx]
  have hf : first s (j / 4) = 4 * (j / 4 / s * s) := by unfold first; rw [Nat.mul_left_comm]
  have key : many s c (j / 4) = min s ((N - 4 * (j / 4 / s * s) + 3) / 4) := by rw [hk]; omega
  have hfN : 4 * (j / 4 / s * s) < N := by omega
  have d1 : (j + 1) / 4 = j / 4 := by omega
  have d2 : (j + 1) % 2 = 1 := by omega
  unfold bookAt bookPage
  simp only [d1, d2, hj, hf]
  generalize many s c (j / 4) = k at *
  generalize j / 4 / s * s = F at *
  generalize j / 4 % s = i at *
  rcases (show j % 4 = 0 ∨ j % 4 = 2 by omega) with hz | hz
  · have hz1 : (j + 1) % 4 = 1 := by omega
    rw [hz, hz1]
    refine ⟨j / 4 + 1, 1, 4 * F, k, 4 * F + 4 * k - 1 - 2 * i, 4 * F + 2 * i, by simp, by simp, h2, key, hfN, by omega, ?_, by omega, .inl ⟨rfl, by omega⟩⟩
    rw [show 4 * F + 4 * k - 1 - 2 * i = 4 * F + (4 * k - 1 - 2 * i) by omega, hmod _ (by omega)]; omega
  · have hz1 : (j + 1) % 4 = 3 := by omega
    rw [hz, hz1]
    refine ⟨j / 4 + 1, 2, 4 * F, k, 4 * F + 2 * i + 1, 4 * F + 4 * k - 2 - 2 * i, by simp, by simp, h2, key, hfN, by omega, ?_, by omega, .inr ⟨rfl, by omega⟩⟩
    rw [show 4 * F + 2 * i + 1 = 4 * F + (2 * i + 1) by omega, hmod _ (by omega)]; omega

end Go.Proofs.Shs
