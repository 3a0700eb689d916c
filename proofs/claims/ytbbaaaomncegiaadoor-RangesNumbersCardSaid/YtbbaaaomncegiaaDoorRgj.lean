/-
  ranges.parts, strings.SplitSeq: the functions that go over a text's parts, as values.
-/
import Derived.Test.YtbbaaaomncegiaaDoorRgi
namespace Go.Proofs.YtbbaaaomncegiaaDoor
open Go.RowKit Go.Proofs.Spn Go.Proofs.Rng Go.Proofs.Prn

theorem parts_any (s : ByteArray) (w : World) : Calls Tryd.prog 21 #[.string s] w fun e w' => e = .returned (.func (.func 39) #[] #[.pointer (some ⟨w.heap.size, 0, none⟩)]) ∧ w' = w.alloc (.cells #[.string s] 9) := by
  go_enter Tryd.func21, Tryd.ntmps21
  go_wp2_with fail
  go_ret
  exact ⟨rfl, rfl⟩
theorem split_any (s d : ByteArray) (w : World) : Calls Tryd.prog 54 #[.string s, .string d, .int .i64 0] w fun e w' => e = .returned (.func (.func 63) #[] #[.pointer (some ⟨w.heap.size + 1, 0, none⟩), .pointer (some ⟨w.heap.size, 0, none⟩), .pointer (some ⟨w.heap.size + 2, 0, none⟩)]) ∧
    w' = ((w.alloc (.cells #[.string s] 9)).alloc (.cells #[.string d] 9)).alloc (.cells #[.int .i64 0] 3) := by
  go_enter Tryd.func54, Tryd.ntmps54
  go_wp2_with fail
  go_ret
  exact ⟨rfl, rfl⟩
theorem splitSeq_any (s d : ByteArray) (w : World) : Calls Tryd.prog 40 #[.string s, .string d] w fun e w' => e = .returned (.func (.func 63) #[] #[.pointer (some ⟨w.heap.size + 1, 0, none⟩), .pointer (some ⟨w.heap.size, 0, none⟩), .pointer (some ⟨w.heap.size + 2, 0, none⟩)]) ∧
    w' = ((w.alloc (.cells #[.string s] 9)).alloc (.cells #[.string d] 9)).alloc (.cells #[.int .i64 0] 3) := by
  go_enter Tryd.func40, Tryd.ntmps40
  go_wp2_with fail
  refine (split_any s d w).mono ?_
  rintro e w' ⟨rfl, rfl⟩
  go_wp2_with fail
  go_ret
  exact ⟨rfl, rfl⟩
end Go.Proofs.YtbbaaaomncegiaaDoor
