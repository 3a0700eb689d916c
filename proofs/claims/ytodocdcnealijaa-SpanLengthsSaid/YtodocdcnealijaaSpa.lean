/-
  What the small functions of package span, and of the document's answer to it, return: for every span; below the heap's size at the call nothing turns.
-/
import Derived.Test.YtodocdcnealijaaProg
import Derived.Test.YtodocdcnealijaaSpn
import Derived.WalkKit
import Derived.WalkLawsBesides
import Derived.WalkSpells
import Derived.Lib.Hide
namespace Go.Proofs.Ytodocdcnealijaa
open Go.RowKit Go.Proofs.Spn

/-- A span as a value. -/
abbrev vS (s : Sp) : Value := .agg #[.int .i64 s.1, .int .i64 s.2]

theorem bl {a w : World} (h : Below a.heap.size a w) (o : Obj) : Below a.heap.size a (w.alloc o) := h.alloc h.size o
theorem bt {a w w' : World} (h : Below a.heap.size a w) (k : Below w.heap.size w w') : Below a.heap.size a w' := h.trans (k.mono h.size)
theorem bcell {W w1 : World} (hb : Below W.heap.size W w1) : (∀ b o, b < W.heap.size → w1.cell? ⟨b, o, none⟩ = W.cell? ⟨b, o, none⟩) ∧ (∀ b o, b < W.heap.size → w1.frozen? ⟨b, o, none⟩ = W.frozen? ⟨b, o, none⟩) :=
  ⟨fun b o h => hb.cell (p := ⟨b, o, none⟩) h, fun b o h => hb.frozen (p := ⟨b, o, none⟩) h⟩
theorem bdn {a w : World} (h : Below a.heap.size a w) (n : Nat) : Below a.heap.size a (w.drewN n) := ⟨h.os, h.tape, h.output, h.size, h.block⟩

set_option maxHeartbeats 400000 in
theorem none_any (a b : Int) (w : World) : Calls Try.prog 24 #[.agg #[.int .i64 a, .int .i64 b]] w fun e w' => e = .returned (.bool (decide (b ≤ a))) ∧ Below w.heap.size w w' := by
  go_enter Try.func24, Try.ntmps24
  go_wp2
  go_ret
  exact ⟨rfl, bl (Below.refl _ _) _⟩

set_option maxHeartbeats 400000 in
theorem len_any (a b : Int) (w : World) (h : b - a ≤ 9223372036854775807) : Calls Try.prog 18 #[.agg #[.int .i64 a, .int .i64 b]] w fun e w' => e = .returned (.int .i64 (lenS (a, b))) ∧ Below w.heap.size w w' := by
  by_cases g : b ≤ a
  · have E := Lib.hid (show lenS (a, b) = 0 by unfold lenS; rw [if_pos g])
    go_enter Try.func18, Try.ntmps18
    go_wp2
    go_ret
    exact ⟨by rw [E.out]; rfl, (by repeat (first | exact Below.refl _ _ | refine bl ?_ _))⟩
  · have E := Lib.hid (show lenS (a, b) = b - a by unfold lenS; rw [if_neg g])
    go_enter Try.func18, Try.ntmps18
    go_wp2
    go_ret
    exact ⟨by rw [E.out]; rfl, (by repeat (first | exact Below.refl _ _ | refine bl ?_ _))⟩

set_option maxHeartbeats 400000 in
theorem has_any (a b x : Int) (w : World) : Calls Try.prog 13 #[.agg #[.int .i64 a, .int .i64 b], .int .i64 x] w fun e w' => e = .returned (.bool (hasS (a, b) x)) ∧ Below w.heap.size w w' := by
  by_cases g : a ≤ x
  · by_cases g2 : x < b
    · have E := Lib.hid (show hasS (a, b) x = true by unfold hasS; simp [g, g2])
      go_enter Try.func13, Try.ntmps13
      go_wp2
      go_ret
      exact ⟨by rw [E.out]; rfl, (by repeat (first | exact Below.refl _ _ | refine bl ?_ _))⟩
    · have E := Lib.hid (show hasS (a, b) x = false by unfold hasS; simp; omega)
      go_enter Try.func13, Try.ntmps13
      go_wp2
      go_ret
      exact ⟨by rw [E.out]; rfl, (by repeat (first | exact Below.refl _ _ | refine bl ?_ _))⟩
  · have E := Lib.hid (show hasS (a, b) x = false by unfold hasS; simp; omega)
    go_enter Try.func13, Try.ntmps13
    go_wp2
    go_ret
    exact ⟨by rw [E.out]; rfl, (by repeat (first | exact Below.refl _ _ | refine bl ?_ _))⟩

set_option maxHeartbeats 1000000 in
theorem meet_any (a1 a2 b1 b2 : Int) (w : World) : Calls Try.prog 14 #[.agg #[.int .i64 a1, .int .i64 a2], .agg #[.int .i64 b1, .int .i64 b2]] w fun e w' => e = .returned (vS (meetS (a1, a2) (b1, b2))) ∧ Below w.heap.size w w' := by
  by_cases h : a2 ≤ a1 ∨ b2 ≤ b1 ∨ min a2 b2 ≤ max a1 b1
  · have E := Lib.hid (show meetS (a1, a2) (b1, b2) = (0, 0) by unfold meetS; rw [if_pos h])
    by_cases h1 : a2 ≤ a1
    · clear h
      go_enter Try.func14, Try.ntmps14
      go_wp2
      all_goals (refine bodyPost_ret (v := .agg #[.int .i64 0, .int .i64 0]) (by simp [results, Try.results14, go_sem]) rfl ⟨by rw [E.out], ?_⟩)
      all_goals (repeat (first | exact Below.refl _ _ | refine bl ?_ _))
    · by_cases h2 : b2 ≤ b1
      · clear h
        go_enter Try.func14, Try.ntmps14
        go_wp2
        all_goals (refine bodyPost_ret (v := .agg #[.int .i64 0, .int .i64 0]) (by simp [results, Try.results14, go_sem]) rfl ⟨by rw [E.out], ?_⟩)
        all_goals (repeat (first | exact Below.refl _ _ | refine bl ?_ _))
      · have h3 : min a2 b2 ≤ max a1 b1 := by omega
        clear h
        go_enter Try.func14, Try.ntmps14
        go_wp2
        all_goals (refine bodyPost_ret (v := .agg #[.int .i64 0, .int .i64 0]) (by simp [results, Try.results14, go_sem]) rfl ⟨by rw [E.out], ?_⟩)
        all_goals (repeat (first | exact Below.refl _ _ | refine bl ?_ _))
  · have E := Lib.hid (show meetS (a1, a2) (b1, b2) = (max a1 b1, min a2 b2) by unfold meetS; rw [if_neg h])
    have h1 : ¬ a2 ≤ a1 := by omega
    have h2 : ¬ b2 ≤ b1 := by omega
    have h3 : ¬ min a2 b2 ≤ max a1 b1 := by omega
    clear h
    go_enter Try.func14, Try.ntmps14
    go_wp2
    all_goals (refine bodyPost_ret (v := .agg #[.int .i64 (max a1 b1), .int .i64 (min a2 b2)]) (by simp [results, Try.results14, go_sem]; omega) rfl ⟨by rw [E.out], ?_⟩)
    all_goals (repeat (first | exact Below.refl _ _ | refine bl ?_ _))
end Go.Proofs.Ytodocdcnealijaa
