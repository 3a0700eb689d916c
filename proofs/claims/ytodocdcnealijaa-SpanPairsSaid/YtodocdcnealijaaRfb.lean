/-
  gatefoldref02.Meet returns what meets of two spans.
-/
import Derived.Test.YtodocdcnealijaaRfa
namespace Go.Proofs.Ytodocdcnealijaa
open Go.RowKit Go.Proofs.Spn

set_option maxHeartbeats 2000000 in
theorem rmeet_any (a1 a2 b1 b2 : Int) (w : World) : Calls Try.prog 16 #[.agg #[.int .i64 a1, .int .i64 a2], .agg #[.int .i64 b1, .int .i64 b2]] w fun e w' => e = .returned (vS (rMeet (a1, a2) (b1, b2))) ∧ Below w.heap.size w w' := by
  by_cases h1 : a2 ≤ a1
  · have E := Lib.hid (show rMeet (a1, a2) (b1, b2) = (0, 0) by unfold rMeet; rw [if_pos (.inl h1)])
    go_enter Try.func16, Try.ntmps16
    go_wp2
    refine bodyPost_ret (v := .agg #[.int .i64 0, .int .i64 0]) (by simp [results, Try.results16, go_sem]) rfl ⟨by rw [E.out], ?_⟩
    repeat (first | exact Below.refl _ _ | refine bl ?_ _)
  · by_cases h2 : b2 ≤ b1
    · have E := Lib.hid (show rMeet (a1, a2) (b1, b2) = (0, 0) by unfold rMeet; rw [if_pos (.inr h2)])
      go_enter Try.func16, Try.ntmps16
      go_wp2
      refine bodyPost_ret (v := .agg #[.int .i64 0, .int .i64 0]) (by simp [results, Try.results16, go_sem]) rfl ⟨by rw [E.out], ?_⟩
      repeat (first | exact Below.refl _ _ | refine bl ?_ _)
    · by_cases g1 : a1 < b1
      · by_cases g2 : b2 < a2
        · by_cases g3 : b2 ≤ b1
          · omega
          · have E := Lib.hid (show rMeet (a1, a2) (b1, b2) = (b1, b2) by unfold rMeet; rw [if_neg (by omega)]; simp only [if_pos g1, if_pos g2]; rw [if_neg (by omega)])
            go_enter Try.func16, Try.ntmps16
            go_wp2
            refine bodyPost_ret (v := .agg #[.int .i64 b1, .int .i64 b2]) (by simp [results, Try.results16, go_sem]) rfl ⟨by rw [E.out], ?_⟩
            repeat (first | exact Below.refl _ _ | refine bl ?_ _)
        · by_cases g3 : a2 ≤ b1
          · have E := Lib.hid (show rMeet (a1, a2) (b1, b2) = (0, 0) by unfold rMeet; rw [if_neg (by omega)]; simp only [if_pos g1, if_neg g2]; rw [if_pos g3])
            go_enter Try.func16, Try.ntmps16
            go_wp2
            refine bodyPost_ret (v := .agg #[.int .i64 0, .int .i64 0]) (by simp [results, Try.results16, go_sem]) rfl ⟨by rw [E.out], ?_⟩
            repeat (first | exact Below.refl _ _ | refine bl ?_ _)
          · have E := Lib.hid (show rMeet (a1, a2) (b1, b2) = (b1, a2) by unfold rMeet; rw [if_neg (by omega)]; simp only [if_pos g1, if_neg g2]; rw [if_neg (by omega)])
            go_enter Try.func16, Try.ntmps16
            go_wp2
            refine bodyPost_ret (v := .agg #[.int .i64 b1, .int .i64 a2]) (by simp [results, Try.results16, go_sem]) rfl ⟨by rw [E.out], ?_⟩
            repeat (first | exact Below.refl _ _ | refine bl ?_ _)
      · by_cases g2 : b2 < a2
        · by_cases g3 : b2 ≤ a1
          · have E := Lib.hid (show rMeet (a1, a2) (b1, b2) = (0, 0) by unfold rMeet; rw [if_neg (by omega)]; simp only [if_neg g1, if_pos g2]; rw [if_pos g3])
            go_enter Try.func16, Try.ntmps16
            go_wp2
            refine bodyPost_ret (v := .agg #[.int .i64 0, .int .i64 0]) (by simp [results, Try.results16, go_sem]) rfl ⟨by rw [E.out], ?_⟩
            repeat (first | exact Below.refl _ _ | refine bl ?_ _)
          · have E := Lib.hid (show rMeet (a1, a2) (b1, b2) = (a1, b2) by unfold rMeet; rw [if_neg (by omega)]; simp only [if_neg g1, if_pos g2]; rw [if_neg (by omega)])
            go_enter Try.func16, Try.ntmps16
            go_wp2
            refine bodyPost_ret (v := .agg #[.int .i64 a1, .int .i64 b2]) (by simp [results, Try.results16, go_sem]) rfl ⟨by rw [E.out], ?_⟩
            repeat (first | exact Below.refl _ _ | refine bl ?_ _)
        · have E := Lib.hid (show rMeet (a1, a2) (b1, b2) = (a1, a2) by unfold rMeet; rw [if_neg (by omega)]; simp only [if_neg g1, if_neg g2]; rw [if_neg (by omega)])
          go_enter Try.func16, Try.ntmps16
          go_wp2
          refine bodyPost_ret (v := .agg #[.int .i64 a1, .int .i64 a2]) (by simp [results, Try.results16, go_sem]) rfl ⟨by rw [E.out], ?_⟩
          repeat (first | exact Below.refl _ _ | refine bl ?_ _)

end Go.Proofs.Ytodocdcnealijaa
