/-
  How a plan opens, by value.
-/
import Derived.Test.YthiplocjiamahaaOpg
namespace Go.Proofs.Ythiplocjiamahaa
open Go.ChangeShapes Go.WideShapes Go.RowKit Go.Deep Go.Joins

theorem five {l : List Int} (h : l.length = 5) : ∃ a b c d e, l = [a, b, c, d, e] := by
  match l, h with
  | [a, b, c, d, e], _ => exact ⟨a, b, c, d, e, rfl⟩

section
variable {H : Type} {enc : TypeId × Value → H} {w : World} {base : Nat} {spare : Nat → Bool} {held : Bool}
theorem open_plan {r : Reach} {b0 : Nat} {v : Value} {d : DataW H} {p : List MemPlace} (hv : Value.okWide Try.prog w r b0 23 v) (h : DataW.Trod enc Try.prog w base spare held 23 v d p) :
    ∃ a b c d e : Int, v = .agg #[.int .i64 a, .int .i64 b, .int .i64 c, .int .i64 d, .int .i64 e] := by
  obtain ⟨l, rfl, hl, _⟩ := open_struct (ti := 3) Try.underlying23 (by kernel_rfl) (by kernel_rfl) (fun i f hf => by
    match i, hf with
    | 0, hf => simp at hf; subst hf; rfl
    | 1, hf => simp at hf; subst hf; rfl
    | 2, hf => simp at hf; subst hf; rfl
    | 3, hf => simp at hf; subst hf; rfl
    | 4, hf => simp at hf; subst hf; rfl
    | i + 5, hf => simp at hf) Try.underlying3 hv h
  obtain ⟨a, b, c, d, e, rfl⟩ := five hl
  exact ⟨a, b, c, d, e, rfl⟩
end
end Go.Proofs.Ythiplocjiamahaa
