/-
  What the small functions of package span that the choices lean on, and ranges.whole, return: for every span; below the heap's size at the call nothing turns.
-/
import Derived.Test.YtbbaaaomncegiaaGreatDoorGen
import Derived.Test.YtbbaaaomncegiaaGreatDoorSpn
import Derived.WalkKit
import Derived.WalkLawsBesides
import Derived.WalkSpells
import Derived.Lib.Hide
namespace Go.Proofs.YtbbaaaomncegiaaGreatDoor
open Go.RowKit Go.Proofs.Spn

/-- A span as a value. -/
abbrev vS (s : Sp) : Value := .agg #[.int .i64 s.1, .int .i64 s.2]


set_option maxHeartbeats 400000 in
theorem none_any (a b : Int) (w : World) : Calls Tryz.prog 53 #[.agg #[.int .i64 a, .int .i64 b]] w fun e w' => e = .returned (.bool (decide (b ≤ a))) ∧ Below w.heap.size w w' := by
  go_enter Tryz.func53, Tryz.ntmps53
  go_wp2
  go_ret
  exact ⟨rfl, bl (Below.refl _ _) _⟩

set_option maxHeartbeats 400000 in
theorem has_any (a b x : Int) (w : World) : Calls Tryz.prog 36 #[.agg #[.int .i64 a, .int .i64 b], .int .i64 x] w fun e w' => e = .returned (.bool (hasS (a, b) x)) ∧ Below w.heap.size w w' := by
  by_cases g : a ≤ x
  · by_cases g2 : x < b
    · have E := Lib.hid (show hasS (a, b) x = true by unfold hasS; simp [g, g2])
      go_enter Tryz.func36, Tryz.ntmps36
      go_wp2
      go_ret
      exact ⟨by rw [E.out]; rfl, (by repeat (first | exact Below.refl _ _ | refine bl ?_ _))⟩
    · have E := Lib.hid (show hasS (a, b) x = false by unfold hasS; simp; omega)
      go_enter Tryz.func36, Tryz.ntmps36
      go_wp2
      go_ret
      exact ⟨by rw [E.out]; rfl, (by repeat (first | exact Below.refl _ _ | refine bl ?_ _))⟩
  · have E := Lib.hid (show hasS (a, b) x = false by unfold hasS; simp; omega)
    go_enter Tryz.func36, Tryz.ntmps36
    go_wp2
    go_ret
    exact ⟨by rw [E.out]; rfl, (by repeat (first | exact Below.refl _ _ | refine bl ?_ _))⟩

set_option maxHeartbeats 1000000 in
theorem meet_any (a1 a2 b1 b2 : Int) (w : World) : Calls Tryz.prog 27 #[.agg #[.int .i64 a1, .int .i64 a2], .agg #[.int .i64 b1, .int .i64 b2]] w fun e w' => e = .returned (vS (meetS (a1, a2) (b1, b2))) ∧ Below w.heap.size w w' := by
  by_cases h : a2 ≤ a1 ∨ b2 ≤ b1 ∨ min a2 b2 ≤ max a1 b1
  · have E := Lib.hid (show meetS (a1, a2) (b1, b2) = (0, 0) by unfold meetS; rw [if_pos h])
    by_cases h1 : a2 ≤ a1
    · clear h
      go_enter Tryz.func27, Tryz.ntmps27
      go_wp2
      all_goals (refine bodyPost_ret (v := .agg #[.int .i64 0, .int .i64 0]) (by simp [results, Tryz.results27, go_sem]) rfl ⟨by rw [E.out], ?_⟩)
      all_goals (repeat (first | exact Below.refl _ _ | refine bl ?_ _))
    · by_cases h2 : b2 ≤ b1
      · clear h
        go_enter Tryz.func27, Tryz.ntmps27
        go_wp2
        all_goals (refine bodyPost_ret (v := .agg #[.int .i64 0, .int .i64 0]) (by simp [results, Tryz.results27, go_sem]) rfl ⟨by rw [E.out], ?_⟩)
        all_goals (repeat (first | exact Below.refl _ _ | refine bl ?_ _))
      · have h3 : min a2 b2 ≤ max a1 b1 := by omega
        clear h
        go_enter Tryz.func27, Tryz.ntmps27
        go_wp2
        all_goals (refine bodyPost_ret (v := .agg #[.int .i64 0, .int .i64 0]) (by simp [results, Tryz.results27, go_sem]) rfl ⟨by rw [E.out], ?_⟩)
        all_goals (repeat (first | exact Below.refl _ _ | refine bl ?_ _))
  · have E := Lib.hid (show meetS (a1, a2) (b1, b2) = (max a1 b1, min a2 b2) by unfold meetS; rw [if_neg h])
    have h1 : ¬ a2 ≤ a1 := by omega
    have h2 : ¬ b2 ≤ b1 := by omega
    have h3 : ¬ min a2 b2 ≤ max a1 b1 := by omega
    clear h
    go_enter Tryz.func27, Tryz.ntmps27
    go_wp2
    all_goals (refine bodyPost_ret (v := .agg #[.int .i64 (max a1 b1), .int .i64 (min a2 b2)]) (by simp [results, Tryz.results27, go_sem]; omega) rfl ⟨by rw [E.out], ?_⟩)
    all_goals (repeat (first | exact Below.refl _ _ | refine bl ?_ _))

set_option maxHeartbeats 1000000 in
theorem within_any (a1 a2 b1 b2 : Int) (w : World) : Calls Tryz.prog 47 #[.agg #[.int .i64 a1, .int .i64 a2], .agg #[.int .i64 b1, .int .i64 b2]] w fun e w' => e = .returned (.bool (withinS (a1, a2) (b1, b2))) ∧ Below w.heap.size w w' := by
  have hN := fun W => none_any a1 a2 W
  by_cases h1 : a2 ≤ a1
  · have E := Lib.hid (show withinS (a1, a2) (b1, b2) = true by unfold withinS; simp [h1])
    have h1' : decide (a2 ≤ a1) = true := by simpa using h1
    rw [h1'] at hN
    clear h1'
    go_enter Tryz.func47, Tryz.ntmps47
    go_wp2_with (go_at_call 53; refine (hN _).mono ?_; rintro e w' ⟨rfl, hb⟩; obtain ⟨hc, hf⟩ := bcell hb)
    go_ret
    exact ⟨by rw [E.out]; rfl, bt (by repeat (first | exact Below.refl _ _ | refine bl ?_ _)) hb⟩
  · have h1' : decide (a2 ≤ a1) = false := by simpa using h1
    rw [h1'] at hN
    clear h1'
    by_cases h2 : b1 ≤ a1
    · have E := Lib.hid (show withinS (a1, a2) (b1, b2) = decide (a2 ≤ b2) by unfold withinS; simp [h1, h2])
      go_enter Tryz.func47, Tryz.ntmps47
      go_wp2_with (go_at_call 53; refine (hN _).mono ?_; rintro e w' ⟨rfl, hb⟩; obtain ⟨hc, hf⟩ := bcell hb)
      go_ret
      exact ⟨by rw [E.out]; rfl, bt (by repeat (first | exact Below.refl _ _ | refine bl ?_ _)) hb⟩
    · have E := Lib.hid (show withinS (a1, a2) (b1, b2) = false by unfold withinS; simp [h1, h2])
      go_enter Tryz.func47, Tryz.ntmps47
      go_wp2_with (go_at_call 53; refine (hN _).mono ?_; rintro e w' ⟨rfl, hb⟩; obtain ⟨hc, hf⟩ := bcell hb)
      go_ret
      exact ⟨by rw [E.out]; rfl, bt (by repeat (first | exact Below.refl _ _ | refine bl ?_ _)) hb⟩

theorem whole_any (w : World) : Calls Tryz.prog 28 #[] w fun e w' => e = .returned (vS (1, 1000000)) ∧ Below w.heap.size w w' := by
  go_enter Tryz.func28, Tryz.ntmps28
  go_wp2
  refine bodyPost_ret (v := .agg #[.int .i64 1, .int .i64 1000000]) (by simp [results, Tryz.results28, go_sem]) rfl ⟨rfl, ?_⟩
  repeat (first | exact Below.refl _ _ | refine bl ?_ _)
end Go.Proofs.YtbbaaaomncegiaaGreatDoor
