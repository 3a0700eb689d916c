/-
  l[1:] of a row of slots.
-/
import Derived.Test.YthiplocjiamahaaSli
import Derived.Test.YthiplocjiamahaaSla
namespace Go.Proofs.Ythiplocjiamahaa
open Go.RowKit Go.Proofs.Shs Go.Maps

theorem elemSlots : Try.prog.underlying 28 = some (.slice (Try.prog.elem 28)) := by kernel_rfl
theorem sizeSlots (wx : World) : (sizeOf (Try.prog.elem 28)).run Try.prog wx = .ok 5 wx := by kernel_rfl
theorem slice_one (a : Option Addr) (n cp : Nat) (h1 : 1 ≤ n) (_h2 : n ≤ cp) :
    ∀ wx, (Instr.slice 28 (.slice a n cp) (some (.int .i64 1)) none none).run Try.prog wx = .ok (.slice (if cp = 1 then a else a.map (·.add 5)) (n - 1) (cp - 1)) wx := by
  intro wx
  rw [run_slice_l (ht := elemSlots) (h0 := by omega) (h1 := by omega), sizeSlots]
  simp [Result.andThen, sliced]
theorem tail_at {w : World} {b off : Nat} {l : List Slot} {cp : Nat} (h : RowAt encSl 5 w (some ⟨b, off, none⟩) l) (hl : l.length ≤ cp) : RowAt encSl 5 w (if cp = 1 then some ⟨b, off, none⟩ else (some (⟨b, off, none⟩ : Addr)).map (·.add 5)) l.tail := by
  split
  · have : l.tail = [] := List.eq_nil_of_length_eq_zero (by simp; omega)
    rw [this]; exact RowAt.nil _ _
  · have := row_tail h
    simpa [Addr.add] using this
end Go.Proofs.Ythiplocjiamahaa
