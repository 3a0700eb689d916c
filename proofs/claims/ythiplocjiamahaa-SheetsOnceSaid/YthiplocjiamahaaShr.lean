/-
  What the small functions of the document's answer (gatefoldref33) return: May, page, grid; below the heap's size at the call nothing turns.
-/
import Derived.Test.YthiplocjiamahaaShal
import Derived.OwnWalk
import Derived.Laws.AppendOwn
namespace Go.Proofs.Ythiplocjiamahaa
open Go.RowKit Go.Proofs.Shs

set_option maxHeartbeats 8000000 in
theorem rmay_any (kd r c s sh : Int) (w : World) :
    Calls Try.prog 10 #[.agg #[.int .i64 kd, .int .i64 r, .int .i64 c, .int .i64 s, .int .i64 sh]] w fun e w' => e = .returned (.bool (mayP ⟨kd, r, c, s, sh⟩)) ∧ Below w.heap.size w w' := by
  go_enter Try.func10, Try.ntmps10
  go_wp2
  all_goals go_ret
  all_goals refine ⟨ret_bool ?_, bl (Below.refl _ _) _⟩
  all_goals (rw [Bool.eq_iff_iff]; unfold mayP gridB bookB; simp at *; omega)

set_option maxHeartbeats 400000 in
theorem page_any (a n : Int) (w : World) : Calls Try.prog 38 #[.int .i64 a, .int .i64 n] w fun e w' => e = .returned (.int .i64 (pg n a)) ∧ w = w' := by
  by_cases h : a < n
  · have E : Hid (pg n a = a) := by show _ = _; unfold pg; rw [if_pos h]
    go_enter Try.func38, Try.ntmps38
    go_wp2
    go_ret
    exact ⟨by rw [E.out]; rfl, rfl⟩
  · have E : Hid (pg n a = -1) := by show _ = _; unfold pg; rw [if_neg h]
    go_enter Try.func38, Try.ntmps38
    go_wp2
    go_ret
    exact ⟨by rw [E.out]; rfl, rfl⟩

end Go.Proofs.Ythiplocjiamahaa
