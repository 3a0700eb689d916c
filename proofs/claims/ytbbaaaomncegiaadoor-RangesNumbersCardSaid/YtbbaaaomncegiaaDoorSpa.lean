/-
  What the small functions of package span that the choices lean on, and ranges.whole, return: for every span; below the heap's size at the call nothing turns.
-/
import Derived.Test.YtbbaaaomncegiaaDoorGen
import Derived.Test.YtbbaaaomncegiaaDoorSpn
import Derived.WalkKit
import Derived.WalkLawsBesides
import Derived.WalkSpells
import Derived.Lib.Hide
namespace Go.Proofs.YtbbaaaomncegiaaDoor
open Go.RowKit Go.Proofs.Spn

/-- A span as a value. -/
abbrev vS (s : Sp) : Value := .agg #[.int .i64 s.1, .int .i64 s.2]


set_option maxHeartbeats 400000 in
theorem none_any (a b : Int) (w : World) : Calls Tryd.prog 38 #[.agg #[.int .i64 a, .int .i64 b]] w fun e w' => e = .returned (.bool (decide (b ≤ a))) ∧ Below w.heap.size w w' := by
  go_enter Tryd.func38, Tryd.ntmps38
  go_wp2
  go_ret
  exact ⟨rfl, bl (Below.refl _ _) _⟩

set_option maxHeartbeats 400000 in
theorem has_any (a b x : Int) (w : World) : Calls Tryd.prog 37 #[.agg #[.int .i64 a, .int .i64 b], .int .i64 x] w fun e w' => e = .returned (.bool (hasS (a, b) x)) ∧ Below w.heap.size w w' := by
  by_cases g : a ≤ x
  · by_cases g2 : x < b
    · have E := Lib.hid (show hasS (a, b) x = true by unfold hasS; simp [g, g2])
      go_enter Tryd.func37, Tryd.ntmps37
      go_wp2
      go_ret
      exact ⟨by rw [E.out]; rfl, (by repeat (first | exact Below.refl _ _ | refine bl ?_ _))⟩
    · have E := Lib.hid (show hasS (a, b) x = false by unfold hasS; simp; omega)
      go_enter Tryd.func37, Tryd.ntmps37
      go_wp2
      go_ret
      exact ⟨by rw [E.out]; rfl, (by repeat (first | exact Below.refl _ _ | refine bl ?_ _))⟩
  · have E := Lib.hid (show hasS (a, b) x = false by unfold hasS; simp; omega)
    go_enter Tryd.func37, Tryd.ntmps37
    go_wp2
    go_ret
    exact ⟨by rw [E.out]; rfl, (by repeat (first | exact Below.refl _ _ | refine bl ?_ _))⟩

set_option maxHeartbeats 1000000 in
theorem meet_any (a1 a2 b1 b2 : Int) (w : World) : Calls Tryd.prog 29 #[.agg #[.int .i64 a1, .int .i64 a2], .agg #[.int .i64 b1, .int .i64 b2]] w fun e w' => e = .returned (vS (meetS (a1, a2) (b1, b2))) ∧ Below w.heap.size w w' := by
  by_cases h : a2 ≤ a1 ∨ b2 ≤ b1 ∨ min a2 b2 ≤ max a1 b1
  · have E := Lib.hid (show meetS (a1, a2) (b1, b2) = (0, 0) by unfold meetS; rw [if_pos h])
    by_cases h1 : a2 ≤ a1
    · clear h
      go_enter Tryd.func29, Tryd.ntmps29
      go_wp2
      all_goals (refine bodyPost_ret (v := .agg #[.int .i64 0, .int .i64 0]) (by simp [results, Tryd.results29, go_sem]) rfl ⟨by rw [E.out], ?_⟩)
      all_goals (repeat (first | exact Below.refl _ _ | refine bl ?_ _))
    · by_cases h2 : b2 ≤ b1
      · clear h
        go_enter Tryd.func29, Tryd.ntmps29
        go_wp2
        all_goals (refine bodyPost_ret (v := .agg #[.int .i64 0, .int .i64 0]) (by simp [results, Tryd.results29, go_sem]) rfl ⟨by rw [E.out], ?_⟩)
        all_goals (repeat (first | exact Below.refl _ _ | refine bl ?_ _))
      · have h3 : min a2 b2 ≤ max a1 b1 := by omega
        clear h
        go_enter Tryd.func29, Tryd.ntmps29
        go_wp2
        all_goals (refine bodyPost_ret (v := .agg #[.int .i64 0, .int .i64 0]) (by simp [results, Tryd.results29, go_sem]) rfl ⟨by rw [E.out], ?_⟩)
        all_goals (repeat (first | exact Below.refl _ _ | refine bl ?_ _))
  · have E := Lib.hid (show meetS (a1, a2) (b1, b2) = (max a1 b1, min a2 b2) by unfold meetS; rw [if_neg h])
    have h1 : ¬ a2 ≤ a1 := by omega
    have h2 : ¬ b2 ≤ b1 := by omega
    have h3 : ¬ min a2 b2 ≤ max a1 b1 := by omega
    clear h
    go_enter Tryd.func29, Tryd.ntmps29
    go_wp2
    all_goals (refine bodyPost_ret (v := .agg #[.int .i64 (max a1 b1), .int .i64 (min a2 b2)]) (by simp [results, Tryd.results29, go_sem]; omega) rfl ⟨by rw [E.out], ?_⟩)
    all_goals (repeat (first | exact Below.refl _ _ | refine bl ?_ _))

set_option maxHeartbeats 1000000 in
theorem within_any (a1 a2 b1 b2 : Int) (w : World) : Calls Tryd.prog 19 #[.agg #[.int .i64 a1, .int .i64 a2], .agg #[.int .i64 b1, .int .i64 b2]] w fun e w' => e = .returned (.bool (withinS (a1, a2) (b1, b2))) ∧ Below w.heap.size w w' := by
  have hN := fun W => none_any a1 a2 W
  by_cases h1 : a2 ≤ a1
  · have E := Lib.hid (show withinS (a1, a2) (b1, b2) = true by unfold withinS; simp [h1])
    have h1' : decide (a2 ≤ a1) = true := by simpa using h1
    rw [h1'] at hN
    clear h1'
    go_enter Tryd.func19, Tryd.ntmps19
    go_wp2_with (go_at_call 38; refine (hN _).mono ?_; rintro e w' ⟨rfl, hb⟩; obtain ⟨hc, hf⟩ := bcell hb)
    go_ret
    exact ⟨by rw [E.out]; rfl, bt (by repeat (first | exact Below.refl _ _ | refine bl ?_ _)) hb⟩
  · have h1' : decide (a2 ≤ a1) = false := by simpa using h1
    rw [h1'] at hN
    clear h1'
    by_cases h2 : b1 ≤ a1
    · have E := Lib.hid (show withinS (a1, a2) (b1, b2) = decide (a2 ≤ b2) by unfold withinS; simp [h1, h2])
      go_enter Tryd.func19, Tryd.ntmps19
      go_wp2_with (go_at_call 38; refine (hN _).mono ?_; rintro e w' ⟨rfl, hb⟩; obtain ⟨hc, hf⟩ := bcell hb)
      go_ret
      exact ⟨by rw [E.out]; rfl, bt (by repeat (first | exact Below.refl _ _ | refine bl ?_ _)) hb⟩
    · have E := Lib.hid (show withinS (a1, a2) (b1, b2) = false by unfold withinS; simp [h1, h2])
      go_enter Tryd.func19, Tryd.ntmps19
      go_wp2_with (go_at_call 38; refine (hN _).mono ?_; rintro e w' ⟨rfl, hb⟩; obtain ⟨hc, hf⟩ := bcell hb)
      go_ret
      exact ⟨by rw [E.out]; rfl, bt (by repeat (first | exact Below.refl _ _ | refine bl ?_ _)) hb⟩

theorem whole_any (w : World) : Calls Tryd.prog 20 #[] w fun e w' => e = .returned (vS (1, 1000000)) ∧ Below w.heap.size w w' := by
  go_enter Tryd.func20, Tryd.ntmps20
  go_wp2
  refine bodyPost_ret (v := .agg #[.int .i64 1, .int .i64 1000000]) (by simp [results, Tryd.results20, go_sem]) rfl ⟨rfl, ?_⟩
  repeat (first | exact Below.refl _ _ | refine bl ?_ _)
end Go.Proofs.YtbbaaaomncegiaaDoor
