/-
  gatefoldlaw33.rises: whether a slot stands behind another one; below the heap's size at the call nothing turns.
-/
import Derived.Test.YthiplocjiamahaaSlf
namespace Go.Proofs.Ythiplocjiamahaa
open Go.RowKit Go.Proofs.Shs

set_option maxHeartbeats 4000000 in
theorem rises_yes (x0 x1 x2 x3 x4 y0 y1 y2 y3 y4 : Int) (w : World) (h : Ahead ⟨x0, x1, x2, x3, x4⟩ ⟨y0, y1, y2, y3, y4⟩) :
    Calls Try.prog 20 #[.agg #[.int .i64 x0, .int .i64 x1, .int .i64 x2, .int .i64 x3, .int .i64 x4], .agg #[.int .i64 y0, .int .i64 y1, .int .i64 y2, .int .i64 y3, .int .i64 y4]] w fun e w' => e = .returned (.bool true) ∧ Below w.heap.size w w' := by
  unfold Ahead at h
  simp only at h
  rcases h with h | ⟨rfl, h | ⟨rfl, h | ⟨rfl, h⟩⟩⟩
  · have e : (x0 != y0) = true := by simpa using (by omega : x0 ≠ y0)
    go_enter Try.func20, Try.ntmps20
    go_wp2_with fail
    go_ret
    exact ⟨rfl, bl (bl (Below.refl _ _) _) _⟩
  · have e : (x1 != y1) = true := by simpa using (by omega : x1 ≠ y1)
    go_enter Try.func20, Try.ntmps20
    go_wp2_with fail
    go_ret
    exact ⟨rfl, bl (bl (Below.refl _ _) _) _⟩
  · have e : (x2 != y2) = true := by simpa using (by omega : x2 ≠ y2)
    go_enter Try.func20, Try.ntmps20
    go_wp2_with fail
    go_ret
    exact ⟨rfl, bl (bl (Below.refl _ _) _) _⟩
  · go_enter Try.func20, Try.ntmps20
    go_wp2_with fail
    go_ret
    exact ⟨rfl, bl (bl (Below.refl _ _) _) _⟩
end Go.Proofs.Ythiplocjiamahaa
