/-
  What the document's answer's small functions return, for every span; and whether a span lies from -2^61 to 2^61.
-/
import Derived.Test.YtodocdcnealijaaMem
namespace Go.Proofs.Ytodocdcnealijaa
open Go.RowKit Go.Proofs.Spn

set_option maxHeartbeats 400000 in
theorem rnone_any (a b : Int) (w : World) : Calls Try.prog 22 #[.agg #[.int .i64 a, .int .i64 b]] w fun e w' => e = .returned (.bool (decide (b ≤ a))) ∧ Below w.heap.size w w' := by
  go_enter Try.func22, Try.ntmps22
  go_wp2
  go_ret
  exact ⟨rfl, bl (Below.refl _ _) _⟩

set_option maxHeartbeats 400000 in
theorem rlen_any (a b : Int) (w : World) (h : b - a ≤ 9223372036854775807) : Calls Try.prog 19 #[.agg #[.int .i64 a, .int .i64 b]] w fun e w' => e = .returned (.int .i64 (lenS (a, b))) ∧ Below w.heap.size w w' := by
  by_cases g : b ≤ a
  · have E := Lib.hid (show lenS (a, b) = 0 by unfold lenS; rw [if_pos g])
    go_enter Try.func19, Try.ntmps19
    go_wp2
    go_ret
    exact ⟨by rw [E.out]; rfl, (by repeat (first | exact Below.refl _ _ | refine bl ?_ _))⟩
  · have E := Lib.hid (show lenS (a, b) = b - a by unfold lenS; rw [if_neg g])
    go_enter Try.func19, Try.ntmps19
    go_wp2
    go_ret
    exact ⟨by rw [E.out]; rfl, (by repeat (first | exact Below.refl _ _ | refine bl ?_ _))⟩

set_option maxHeartbeats 400000 in
theorem rhas_any (a b x : Int) (w : World) : Calls Try.prog 20 #[.agg #[.int .i64 a, .int .i64 b], .int .i64 x] w fun e w' => e = .returned (.bool (hasS (a, b) x)) ∧ Below w.heap.size w w' := by
  by_cases g : a ≤ x
  · have E := Lib.hid (show hasS (a, b) x = decide (x < b) by unfold hasS; simp [g])
    go_enter Try.func20, Try.ntmps20
    go_wp2
    go_ret
    exact ⟨by rw [E.out]; rfl, (by repeat (first | exact Below.refl _ _ | refine bl ?_ _))⟩
  · have E := Lib.hid (show hasS (a, b) x = false by unfold hasS; simp; omega)
    go_enter Try.func20, Try.ntmps20
    go_wp2
    go_ret
    exact ⟨by rw [E.out]; rfl, (by repeat (first | exact Below.refl _ _ | refine bl ?_ _))⟩

/-- Whether a span lies from -2^61 to 2^61. -/
def nearB (s : Sp) : Bool := decide (-2305843009213693952 ≤ s.1 ∧ s.1 ≤ 2305843009213693952 ∧ -2305843009213693952 ≤ s.2 ∧ s.2 ≤ 2305843009213693952)

set_option maxHeartbeats 400000 in
theorem near_any (a b : Int) (w : World) : Calls Try.prog 17 #[.agg #[.int .i64 a, .int .i64 b]] w fun e w' => e = .returned (.bool (nearB (a, b))) ∧ Below w.heap.size w w' := by
  by_cases g1 : -2305843009213693952 ≤ a
  · by_cases g2 : a ≤ 2305843009213693952
    · by_cases g3 : -2305843009213693952 ≤ b
      · have E := Lib.hid (show nearB (a, b) = decide (b ≤ 2305843009213693952) by unfold nearB; simp [g1, g2, g3])
        go_enter Try.func17, Try.ntmps17
        go_wp2
        go_ret
        exact ⟨by rw [E.out]; rfl, (by repeat (first | exact Below.refl _ _ | refine bl ?_ _))⟩
      · have E := Lib.hid (show nearB (a, b) = false by unfold nearB; simp [g3])
        go_enter Try.func17, Try.ntmps17
        go_wp2
        go_ret
        exact ⟨by rw [E.out]; rfl, (by repeat (first | exact Below.refl _ _ | refine bl ?_ _))⟩
    · have E := Lib.hid (show nearB (a, b) = false by unfold nearB; simp [g2])
      go_enter Try.func17, Try.ntmps17
      go_wp2
      go_ret
      exact ⟨by rw [E.out]; rfl, (by repeat (first | exact Below.refl _ _ | refine bl ?_ _))⟩
  · have E := Lib.hid (show nearB (a, b) = false by unfold nearB; simp [g1])
    go_enter Try.func17, Try.ntmps17
    go_wp2
    go_ret
    exact ⟨by rw [E.out]; rfl, (by repeat (first | exact Below.refl _ _ | refine bl ?_ _))⟩

set_option maxHeartbeats 400000 in
theorem of_any (a b : Int) (w : World) : Calls Try.prog 23 #[.int .i64 a, .int .i64 b] w fun e w' => e = .returned (.agg #[.int .i64 a, .int .i64 b]) ∧ Below w.heap.size w w' := by
  go_enter Try.func23, Try.ntmps23
  go_wp2
  refine bodyPost_ret (v := .agg #[.int .i64 a, .int .i64 b]) (by simp [results, Try.results23, go_sem]) rfl ⟨rfl, ?_⟩
  repeat (first | exact Below.refl _ _ | refine bl ?_ _)

end Go.Proofs.Ytodocdcnealijaa
