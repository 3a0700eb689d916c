/-
  How arguments open: a span by value; a slice of spans.
-/
import Derived.Test.YtbbaaaomncegiaaGreatDoorMem
import Derived.ProofKit
import Derived.Lib.SmallJoins
import Derived.Deep.SlicePairs
namespace Go.Proofs.YtbbaaaomncegiaaGreatDoor
open Go.ChangeShapes Go.WideShapes Go.RowKit Go.Deep Go.Joins Go.Proofs.Spn

theorem own_ : ownKnob Tryz.prog.godebug = none := by kernel_rfl
theorem laidOut_ : laidOutB Tryz.prog = true := by kernel_rfl
theorem cellsSpan : Tryz.prog.cellsOf 24 = 2 := by kernel_rfl
theorem bytesSpan : Tryz.prog.bytesOf 24 = 16 := by kernel_rfl

section
variable {H : Type} {enc : TypeId × Value → H} {w : World} {base : Nat} {spare : Nat → Bool} {held : Bool}

set_option maxRecDepth 100000 in
theorem open_span {r : Reach} {b0 : Nat} {v : Value} {d : DataW H} {p : List MemPlace} (hv : Value.okWide Tryz.prog w r b0 24 v) (h : DataW.Trod enc Tryz.prog w base spare held 24 v d p) :
    ∃ a b : Int, v = .agg #[.int .i64 a, .int .i64 b] := by
  obtain ⟨c0, c1, y0, y1, m, rfl, rfl, rfl, hy0, hy1⟩ := open_agg2 Tryz.underlying24 (by kernel_rfl) cellsSpan hv h
  obtain ⟨a, e0, _, _⟩ := DataW.trod_int Tryz.underlying3 hy0
  obtain ⟨b, e1, _, _⟩ := DataW.trod_int Tryz.underlying3 hy1
  simp at e0 e1
  subst e0; subst e1
  exact ⟨a, b, rfl⟩

/-- A slice of spans: its address leads to spans, as many as its length says. -/
theorem open_spans {fuel : Nat} {A : Option Addr} {len cap : Nat} {x : DataW H × List MemPlace} (h : DataW.trod enc Tryz.prog w base spare held fuel 22 [.slice A len cap] = some x) :
    ∃ xs : List Sp, xs.length = len ∧ Spans w A xs ∧ len ≤ cap ∧ cap ≤ maxLen ∧ (A = none → cap = 0) := by
  rcases open_slice_pairs Tryz.underlying22 Tryz.underlying24 cellsSpan rfl rfl (by kernel_rfl) (by kernel_rfl) h with ⟨hcs, _⟩ | ⟨a, l, c, m, n, V0, V1, D0, D1, P0, P1, hcs, _, hl, hm, hmm, _, hx⟩
  · simp at hcs
    obtain ⟨rfl, rfl, rfl⟩ := hcs
    exact ⟨[], rfl, Spans.nil _ _, Nat.le_refl _, Nat.zero_le _, fun _ => rfl⟩
  · simp at hcs
    obtain ⟨rfl, rfl, rfl⟩ := hcs
    have hlm : len ≤ m := by rw [hmm]; split <;> omega
    have hi : ∀ i, i < len → ∃ q : Sp, V0 i = .int .i64 q.1 ∧ V1 i = .int .i64 q.2 := fun i hi => by
      obtain ⟨_, _, h0, h1⟩ := hx i (by omega)
      obtain ⟨p, e0, _, _⟩ := DataW.trod_int Tryz.underlying3 h0
      obtain ⟨q, e1, _, _⟩ := DataW.trod_int Tryz.underlying3 h1
      simp at e0 e1
      exact ⟨(p, q), e0, e1⟩
    obtain ⟨f, hf⟩ := choose_lt hi
    refine ⟨(List.range len).map f, by simp, fun i x hxi => ?_, hl, hm, fun e => by cases e⟩
    have hil : i < len := by have := (List.getElem?_eq_some_iff.1 hxi).1; simpa using this
    have hxe : x = f i := by
      simp [hil] at hxi
      exact hxi.symm
    subst hxe
    obtain ⟨c0, c1, _, _⟩ := hx i (by omega)
    obtain ⟨b, off, spot⟩ := a
    have hspot : spot = none := by
      obtain ⟨z0, _⟩ := hx 0 (by omega)
      simpa [Addr.add] using World.cell?_spot z0
    subst hspot
    rw [Addr.add_lit, (hf i hil).1] at c0
    rw [Addr.add_lit, (hf i hil).2] at c1
    exact ⟨b, off, rfl, World.block_lt_of_cell? _ _ c0, c0, by rw [← Nat.add_assoc] at c1; exact c1⟩
end
end Go.Proofs.YtbbaaaomncegiaaGreatDoor
