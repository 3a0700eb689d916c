/-
  How a slice of slots opens.
-/
import Derived.Test.YthiplocjiamahaaOpl
import Derived.Test.YthiplocjiamahaaShi
namespace Go.Proofs.Ythiplocjiamahaa
open Go.ChangeShapes Go.WideShapes Go.RowKit Go.Deep Go.Joins Go.Proofs.Shs

def slotOf : List Int → Slot
  | [a, b, c, d, e] => ⟨a, b, c, d, e⟩
  | _ => ⟨0, 0, 0, 0, 0⟩
theorem slotOf_enc {l : List Int} (h : l.length = 5) : encSl (slotOf l) = encN l := by
  obtain ⟨a, b, c, d, e, rfl⟩ := five h
  rfl
theorem slotOf_wf {l : List Int} (h : l.length = 5) (hw : ∀ y, y ∈ l → (Lit.int .i64 y).wf = true) : wfS (slotOf l) := by
  obtain ⟨a, b, c, d, e, rfl⟩ := five h
  exact ⟨⟨hw a (by simp), hw b (by simp), hw c (by simp), hw d (by simp)⟩, hw e (by simp)⟩

section
variable {H : Type} {enc : TypeId × Value → H} {w : World} {base : Nat} {spare : Nat → Bool} {held : Bool}
theorem open_slots {fuel : Nat} {A : Option Addr} {len cap : Nat} {x : DataW H × List MemPlace} (h : DataW.trod enc Try.prog w base spare held fuel 28 [.slice A len cap] = some x) :
    ∃ xs : List Slot, xs.length = len ∧ (∀ y, y ∈ xs → wfS y) ∧ RowAt encSl 5 w A xs ∧ len ≤ cap ∧ cap ≤ maxLen ∧ (A = none → cap = 0) := by
  obtain ⟨xs, hl, hw, hr, h1, h2, h3⟩ := open_rows (ti := 3) Try.underlying28 Try.underlying37 (by kernel_rfl) (by kernel_rfl) (fun i f hf => by
    match i, hf with
    | 0, hf => simp at hf; subst hf; rfl
    | 1, hf => simp at hf; subst hf; rfl
    | 2, hf => simp at hf; subst hf; rfl
    | 3, hf => simp at hf; subst hf; rfl
    | 4, hf => simp at hf; subst hf; rfl
    | i + 5, hf => simp at hf) Try.underlying3 (by decide) h
  refine ⟨xs.map slotOf, by simpa using hl, fun y hy => ?_, fun i y hy => ?_, h1, h2, h3⟩
  · obtain ⟨l, hlm, rfl⟩ := List.mem_map.1 hy
    exact slotOf_wf (hw l hlm).1 (hw l hlm).2
  · rw [List.getElem?_map] at hy
    obtain ⟨l, hlx, rfl⟩ := Option.map_eq_some_iff.1 hy
    obtain ⟨b, off, e, hb, hc⟩ := hr i l hlx
    refine ⟨b, off, e, hb, fun c v hv => hc c v ?_⟩
    rw [slotOf_enc (hw l (List.mem_iff_getElem?.2 ⟨i, hlx⟩)).1] at hv
    exact hv
end
end Go.Proofs.Ythiplocjiamahaa
