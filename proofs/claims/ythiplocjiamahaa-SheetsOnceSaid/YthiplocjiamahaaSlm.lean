/-
  gatefoldlaw33.SheetsOnce returns true for any plan and any number.
-/
import Derived.Test.YthiplocjiamahaaSlj
namespace Go.Proofs.Ythiplocjiamahaa
open Go.RowKit Go.Proofs.Shs

theorem sonce_any (kd r c s sh n : Int) (w : World) :
    Calls Try.prog 6 #[.agg #[.int .i64 kd, .int .i64 r, .int .i64 c, .int .i64 s, .int .i64 sh], .int .i64 n] w fun e w' => e = .returned (.bool true) ∧ Below w.heap.size w w' := by
  cases hm : mayP ⟨kd, r, c, s, sh⟩ with
  | false => exact once_far kd r c s sh n w (.inl hm)
  | true =>
    by_cases hn : n < 1
    · exact once_far kd r c s sh n w (.inr hn)
    · obtain ⟨N, hN⟩ : ∃ N : Nat, min n 600 = (N : Int) := ⟨(min n 600).toNat, by omega⟩
      exact once_near kd r c s sh n N _ _ w hm (cntN_int _ _ hm (by omega) (by omega)).symm rfl (onceF kd r c s sh N hm (by omega) (by omega)) hN (by omega) (by omega)
end Go.Proofs.Ythiplocjiamahaa
