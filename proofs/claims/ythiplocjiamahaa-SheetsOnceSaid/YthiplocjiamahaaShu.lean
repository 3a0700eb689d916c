/-
  Books, sheet by sheet: plain mathematics.
-/
import Derived.Test.YthiplocjiamahaaSht
namespace Go.Proofs.Shs

def blL (s c : Nat) (n : Int) (a : Nat) : List Slot := (List.range a).map (bookAt s c n)
theorem blL_length (s c : Nat) (n : Int) (a : Nat) : (blL s c n a).length = a := by unfold blL; simp
theorem blL_two (s c : Nat) (n : Int) (a : Nat) : blL s c n (a + 2) = blL s c n a ++ [bookAt s c n a, bookAt s c n (a + 1)] := by
  unfold blL; rw [List.range_succ, List.range_succ, List.map_append, List.map_append]; simp
theorem book_four (s c : Nat) (n : Int) (m i k f a : Nat) (hi : i < k) (hk : k = min s (c - m * s)) (hf : f = m * (4 * s)) (ha : a = 4 * (m * s + i)) :
    bookAt s c n a = ⟨(m * s + i + 1 : Nat), 1, 0, 0, pg n ((f : Int) + 4 * (k : Int) - 1 - 2 * (i : Int))⟩ ∧ bookAt s c n (a + 1) = ⟨(m * s + i + 1 : Nat), 1, 0, 1, pg n ((f : Int) + 2 * (i : Int))⟩ ∧
    bookAt s c n (a + 2) = ⟨(m * s + i + 1 : Nat), 2, 0, 0, pg n ((f : Int) + 2 * (i : Int) + 1)⟩ ∧ bookAt s c n (a + 2 + 1) = ⟨(m * s + i + 1 : Nat), 2, 0, 1, pg n ((f : Int) + 4 * (k : Int) - 2 - 2 * (i : Int))⟩ := by
  have hs : i < s := by omega
  have q1 : (m * s + i) / s = m := by rw [Nat.mul_comm, Nat.mul_add_div (by omega), Nat.div_eq_of_lt hs, Nat.add_zero]
  have q2 : (m * s + i) % s = i := by rw [Nat.mul_comm, Nat.mul_add_mod, Nat.mod_eq_of_lt hs]
  have g : ∀ z, z < 4 → (a + z) / 4 = m * s + i ∧ (a + z) % 4 = z ∧ (a + z) % 2 = z % 2 := fun z hz => by omega
  have b : ∀ z, z < 4 → bookAt s c n (a + z) = ⟨(m * s + i + 1 : Nat), (z / 2 + 1 : Nat), 0, (z % 2 : Nat), pg n ((if z = 0 then f + 4 * k - 1 - 2 * i else if z = 1 then f + 2 * i else if z = 2 then f + 2 * i + 1 else f + 4 * k - 2 - 2 * i : Nat) : Int)⟩ := fun z hz => by
    obtain ⟨g1, g2, g3⟩ := g z hz
    unfold bookAt bookPage first many
    simp only [g1, g2, g3, q1, q2]
    rw [← hk, ← hf]
  have e1 : ((f + 4 * k - 1 - 2 * i : Nat) : Int) = (f : Int) + 4 * (k : Int) - 1 - 2 * (i : Int) := by omega
  have e2 : ((f + 4 * k - 2 - 2 * i : Nat) : Int) = (f : Int) + 4 * (k : Int) - 2 - 2 * (i : Int) := by omega
  refine ⟨?_, ?_, ?_, ?_⟩
  · have := b 0 (by omega); simp only [if_true] at this; rw [e1] at this; exact this
  · have := b 1 (by omega); simp at this; rw [this]; simp
  · have := b 2 (by omega); simp at this; rw [this]; simp
  · have := b 3 (by omega)
    rw [show a + 2 + 1 = a + 3 from rfl, this, if_neg (by omega), if_neg (by omega), if_neg (by omega), e2]
    rfl
/-- What the sheets of the next book are. -/
theorem next_min (s c m : Nat) (h : m * s < c) : min ((m + 1) * s) c = m * s + min s (c - m * s) := by rw [Nat.succ_mul]; omega

theorem allP_gl (r c s N : Nat) (h1 : 1 ≤ r) (h2 : r ≤ 16) (h3 : 1 ≤ c) (h4 : c ≤ 16) (h5 : 1 ≤ s) (h6 : s ≤ 2) (hN : N ≤ 999999) : allP ⟨1, r, c, s, 0⟩ N = gl r c s N ((N + r * c * s - 1) / (r * c * s) * (r * c * s)) := by
  have hm : mayP ⟨1, r, c, s, 0⟩ = true := by unfold mayP gridB bookB; simp; omega
  unfold allP
  rw [if_pos ⟨hm, by omega, by omega⟩]
  have hp : perP ⟨1, r, c, s, 0⟩ = r * c * s := rfl
  have hc : cntN ⟨1, r, c, s, 0⟩ N = (N + r * c * s - 1) / (r * c * s) := rfl
  rw [hp, hc]
  rfl
theorem allP_bl (s N : Nat) (h1 : 1 ≤ s) (h2 : s ≤ 64) (hN : N ≤ 999999) : allP ⟨2, 1, 2, 2, s⟩ N = blL s ((N + 3) / 4) N (4 * ((N + 3) / 4)) := by
  have hm : mayP ⟨2, 1, 2, 2, s⟩ = true := by unfold mayP gridB bookB; simp; omega
  unfold allP
  rw [if_pos ⟨hm, by omega, by omega⟩]
  have hp : perP ⟨2, 1, 2, 2, s⟩ = 4 := rfl
  have hc : cntN ⟨2, 1, 2, 2, s⟩ N = (N + 3) / 4 := rfl
  rw [hp, hc, Nat.mul_comm]
  rfl

end Go.Proofs.Shs
