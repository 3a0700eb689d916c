/-
  Slots, more plain mathematics.
-/
import Derived.Test.YthiplocjiamahaaShs
namespace Go.Proofs.Shs

/-- The first k of them. -/
def progL (p : Plan) (n : Int) (k : Nat) : List Slot := (List.range k).map (progAt p n)
theorem progL_length (p : Plan) (n : Int) (k : Nat) : (progL p n k).length = k := by unfold progL; simp
theorem progL_succ (p : Plan) (n : Int) (k : Nat) : progL p n (k + 1) = progL p n k ++ [progAt p n k] := by unfold progL; rw [List.range_succ, List.map_append]; rfl

/-! ### The grid, slot by slot -/
def gl (r c s : Nat) (n : Int) (a : Nat) : List Slot := (List.range a).map (gridAt r c s n)
theorem gl_length (r c s : Nat) (n : Int) (a : Nat) : (gl r c s n a).length = a := by unfold gl; simp
theorem gl_succ (r c s : Nat) (n : Int) (a : Nat) : gl r c s n (a + 1) = gl r c s n a ++ [gridAt r c s n a] := by unfold gl; rw [List.range_succ, List.map_append]; rfl
theorem grid_at (r c s : Nat) (n : Int) (t d e f a : Nat) (ht : 1 ≤ t) (hd : 1 ≤ d) (hds : d ≤ s) (he : e < r) (hf : f < c) (ha : a = (((t - 1) * s + (d - 1)) * r + e) * c + f) : gridAt r c s n a = ⟨t, d, e, f, pg n a⟩ := by
  have step : ∀ X b y : Nat, y < b → (X * b + y) / b = X ∧ (X * b + y) % b = y := by
    intro X b y h
    rw [Nat.mul_comm]
    exact ⟨by rw [Nat.mul_add_div (by omega), Nat.div_eq_of_lt h, Nat.add_zero], by rw [Nat.mul_add_mod, Nat.mod_eq_of_lt h]⟩
  have e1 : ∀ x : Nat, x / (r * c) = x / c / r := fun x => by rw [Nat.div_div_eq_div_mul, Nat.mul_comm]
  have e2 : ∀ x : Nat, x / (r * c * s) = x / c / r / s := fun x => by rw [← e1, Nat.div_div_eq_div_mul]
  obtain ⟨a1, a2⟩ := step (((t - 1) * s + (d - 1)) * r + e) c f hf
  obtain ⟨b1, b2⟩ := step ((t - 1) * s + (d - 1)) r e he
  obtain ⟨c1, c2⟩ := step (t - 1) s (d - 1) (by omega)
  rw [← ha] at a1 a2
  unfold gridAt
  rw [e2, e1, a1, a2, b1, b2, c1, c2]
  simp only [Slot.mk.injEq]
  refine ⟨by omega, by omega, trivial, trivial, trivial⟩
theorem cnt_only (R t n : Nat) (hR : 0 < R) (h1 : n ≤ t * R) (h2 : t * R < n + R) : (n + R - 1) / R = t := by
  have h3 : t * R ≤ n + R - 1 := by omega
  have h4 : n + R - 1 < (t + 1) * R := by rw [Nat.succ_mul]; omega
  exact Nat.div_eq_of_lt_le h3 h4
theorem gl_all (r c s n : Nat) (a t : Nat) (hR : 0 < r * c * s) (ha : a = ((t - 1) * s) * r * c) (h1 : n ≤ a) (h2 : a < n + r * c * s) : a = (n + r * c * s - 1) / (r * c * s) * (r * c * s) := by
  have e : a = (t - 1) * (r * c * s) := by rw [ha, Nat.mul_assoc, Nat.mul_assoc, Nat.mul_comm s (r * c)]
  rw [e] at h1 h2
  rw [cnt_only (r * c * s) (t - 1) n hR h1 h2, e]

end Go.Proofs.Shs
