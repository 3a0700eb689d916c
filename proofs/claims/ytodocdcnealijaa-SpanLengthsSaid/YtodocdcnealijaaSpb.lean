/-
  What the other small functions of package span return: for every span; below the heap's size at the call nothing turns.
-/
import Derived.Test.YtodocdcnealijaaSpa
namespace Go.Proofs.Ytodocdcnealijaa
open Go.RowKit Go.Proofs.Spn

set_option maxHeartbeats 1000000 in
theorem apart_any (a1 a2 b1 b2 : Int) (w : World) : Calls Try.prog 21 #[.agg #[.int .i64 a1, .int .i64 a2], .agg #[.int .i64 b1, .int .i64 b2]] w fun e w' => e = .returned (.bool (decide (meetS (a1, a2) (b1, b2) = (0, 0)))) ∧ Below w.heap.size w w' := by
  have hM := fun W => meet_any a1 a2 b1 b2 W
  generalize hm : meetS (a1, a2) (b1, b2) = m at hM ⊢
  obtain ⟨m1, m2⟩ := m
  clear hm
  by_cases h1 : m1 = 0
  · subst h1
    by_cases h2 : m2 = 0
    · subst h2
      go_enter Try.func21, Try.ntmps21
      go_wp2_with (go_at_call 14; refine (hM _).mono ?_; rintro e w' ⟨rfl, hb⟩)
      go_ret
      exact ⟨rfl, bt (by repeat (first | exact Below.refl _ _ | refine bl ?_ _)) hb⟩
    · have E := Lib.hid (show decide (((0 : Int), m2) = (0, 0)) = false by simp [h2])
      have h3 : (m2 == 0) = false := by simp [h2]
      clear h2
      go_enter Try.func21, Try.ntmps21
      go_wp2_with (go_at_call 14; refine (hM _).mono ?_; rintro e w' ⟨rfl, hb⟩)
      go_ret
      exact ⟨by rw [E.out]; rfl, bt (by repeat (first | exact Below.refl _ _ | refine bl ?_ _)) hb⟩
  · have E := Lib.hid (show decide ((m1, m2) = ((0 : Int), (0 : Int))) = false by simp [h1])
    have h3 : (m1 == 0) = false := by simp [h1]
    clear h1
    go_enter Try.func21, Try.ntmps21
    go_wp2_with (go_at_call 14; refine (hM _).mono ?_; rintro e w' ⟨rfl, hb⟩)
    go_ret
    exact ⟨by rw [E.out]; rfl, bt (by repeat (first | exact Below.refl _ _ | refine bl ?_ _)) hb⟩

set_option maxHeartbeats 1000000 in
theorem within_any (a1 a2 b1 b2 : Int) (w : World) : Calls Try.prog 15 #[.agg #[.int .i64 a1, .int .i64 a2], .agg #[.int .i64 b1, .int .i64 b2]] w fun e w' => e = .returned (.bool (withinS (a1, a2) (b1, b2))) ∧ Below w.heap.size w w' := by
  have hN := fun W => none_any a1 a2 W
  by_cases h1 : a2 ≤ a1
  · have E := Lib.hid (show withinS (a1, a2) (b1, b2) = true by unfold withinS; simp [h1])
    have h1' : decide (a2 ≤ a1) = true := by simpa using h1
    rw [h1'] at hN
    clear h1'
    go_enter Try.func15, Try.ntmps15
    go_wp2_with (go_at_call 24; refine (hN _).mono ?_; rintro e w' ⟨rfl, hb⟩; obtain ⟨hc, hf⟩ := bcell hb)
    go_ret
    exact ⟨by rw [E.out]; rfl, bt (by repeat (first | exact Below.refl _ _ | refine bl ?_ _)) hb⟩
  · have h1' : decide (a2 ≤ a1) = false := by simpa using h1
    rw [h1'] at hN
    clear h1'
    by_cases h2 : b1 ≤ a1
    · have E := Lib.hid (show withinS (a1, a2) (b1, b2) = decide (a2 ≤ b2) by unfold withinS; simp [h1, h2])
      go_enter Try.func15, Try.ntmps15
      go_wp2_with (go_at_call 24; refine (hN _).mono ?_; rintro e w' ⟨rfl, hb⟩; obtain ⟨hc, hf⟩ := bcell hb)
      go_ret
      exact ⟨by rw [E.out]; rfl, bt (by repeat (first | exact Below.refl _ _ | refine bl ?_ _)) hb⟩
    · have E := Lib.hid (show withinS (a1, a2) (b1, b2) = false by unfold withinS; simp [h1, h2])
      go_enter Try.func15, Try.ntmps15
      go_wp2_with (go_at_call 24; refine (hN _).mono ?_; rintro e w' ⟨rfl, hb⟩; obtain ⟨hc, hf⟩ := bcell hb)
      go_ret
      exact ⟨by rw [E.out]; rfl, bt (by repeat (first | exact Below.refl _ _ | refine bl ?_ _)) hb⟩
end Go.Proofs.Ytodocdcnealijaa
