/-
  Words for memory: a slice that reads as spans, nil let in; a block of two numbers.
-/
import Derived.Test.YtbbaaaomncegiaaGreatDoorSpa
import Derived.Deep.Draws
import Derived.Laws.OwnMore
import Derived.Laws.Rows
namespace Go.Proofs.YtbbaaaomncegiaaGreatDoor
open Go.RowKit Go.Proofs.Spn

/-- The spans' cells, one behind the other. -/
def flatS : List Sp → List Value
  | [] => []
  | s :: r => .int .i64 s.1 :: .int .i64 s.2 :: flatS r
theorem flatS_length (l : List Sp) : (flatS l).length = l.length * 2 := by
  induction l with
  | nil => rfl
  | cons s r ih => simp only [flatS, List.length_cons, ih]; omega
theorem flatS_append (a b : List Sp) : flatS (a ++ b) = flatS a ++ flatS b := by
  induction a with
  | nil => rfl
  | cons s r ih => simp only [flatS, List.cons_append, ih]
theorem flatS_one (l : List Sp) (i : Nat) (x : Sp) (h : l[i]? = some x) : (flatS l)[i * 2]? = some (.int .i64 x.1) ∧ (flatS l)[i * 2 + 1]? = some (.int .i64 x.2) := by
  induction l generalizing i with
  | nil => simp at h
  | cons s r ih =>
    cases i with
    | zero => simp at h; subst h; exact ⟨rfl, rfl⟩
    | succ i =>
      have := ih i (by simpa using h)
      rw [show (i + 1) * 2 = i * 2 + 2 by omega, show i * 2 + 2 + 1 = (i * 2 + 1) + 2 by omega]
      simpa [flatS] using this
theorem flatS_cells (l : List Sp) : ∀ u ∈ flatS l, u.oneCell' = true := by
  induction l with
  | nil => intro u hu; cases hu
  | cons s r ih =>
    intro u hu
    simp only [flatS, List.mem_cons] at hu
    rcases hu with rfl | rfl | hu
    · rfl
    · rfl
    · exact ih u hu

/-- A slice's address leads to spans. -/
def Spans (w : World) (A : Option Addr) (xs : List Sp) : Prop :=
  ∀ i x, xs[i]? = some x → ∃ b off, A = some ⟨b, off, none⟩ ∧ b < w.heap.size ∧ w.cell? ⟨b, off + i * 2, none⟩ = some (.int .i64 x.1) ∧ w.cell? ⟨b, off + i * 2 + 1, none⟩ = some (.int .i64 x.2)

section
variable {w w' : World} {A : Option Addr} {xs : List Sp}
theorem Spans.nil (w : World) (A : Option Addr) : Spans w A [] := fun i x h => by simp at h
theorem Spans.below (h : Spans w A xs) (hb : Below w.heap.size w w') : Spans w' A xs := fun i x hx => by
  obtain ⟨b, off, hA, hlt, h1, h2⟩ := h i x hx
  exact ⟨b, off, hA, Nat.lt_of_lt_of_le hlt hb.size, (hb.cell (p := ⟨b, _, none⟩) hlt).trans h1, (hb.cell (p := ⟨b, _, none⟩) hlt).trans h2⟩
theorem Spans.grown (h : Spans w A xs) {row : Option Nat} (hg : w.grownBy w' row) (hr : ∀ a, A = some a → some a.block ≠ row) : Spans w' A xs := fun i x hx => by
  obtain ⟨b, off, hA, hlt, h1, h2⟩ := h i x hx
  have hne := hr _ hA
  exact ⟨b, off, hA, Nat.lt_of_lt_of_le hlt hg.size, (World.cell?_of_block (hg.block b hlt hne)).trans h1, (World.cell?_of_block (hg.block b hlt hne)).trans h2⟩
theorem Spans.take (h : Spans w A xs) (n : Nat) : Spans w A (xs.take n) := fun i x hx => h i x (by
  rw [List.getElem?_take] at hx
  split at hx
  · exact hx
  · cases hx)
/-- What the call owns reads as the spans. -/
theorem Spans.of_own {base : Nat} {v : Value} (h : w.ownsRow base 24 2 v xs.length (flatS xs)) : ∃ A c, v = .slice A xs.length c ∧ Spans w A xs ∧ xs.length ≤ c ∧ c ≤ maxLen ∧ (A = none ↔ v = .slice none 0 0) ∧ ∀ a, A = some a → base ≤ a.block ∧ a.block < w.heap.size := by
  rcases h.2 with ⟨rfl, h0⟩ | ⟨g, cap, cur, rfl, hg, hh, hn, hm, hs, hx⟩
  · rw [h0]
    refine ⟨none, 0, rfl, ?_, Nat.le_refl _, Nat.zero_le _, by simp, fun a e => by cases e⟩
    rw [List.eq_nil_of_length_eq_zero h0]
    exact Spans.nil _ _
  · have hlt : g < w.heap.size := (Array.getElem?_eq_some_iff.1 hh).1
    refine ⟨some ⟨g, 0, none⟩, cap, rfl, fun i x hi => ?_, hn, hm, by simp, fun a e => by cases e; exact ⟨hg, hlt⟩⟩
    obtain ⟨f1, f2⟩ := flatS_one xs i x hi
    have hil : i < xs.length := (List.getElem?_eq_some_iff.1 hi).1
    have cell : ∀ j u, (flatS xs)[j]? = some u → w.cell? ⟨g, j, none⟩ = some u := fun j u hj => by
      rw [cell_of_row w g j cur _ (0, 0) hh]
      rw [← hx, List.getElem?_take] at hj
      split at hj
      · simpa using hj
      · cases hj
    exact ⟨g, 0, rfl, hlt, by rw [Nat.zero_add]; exact cell _ _ f1, by rw [Nat.zero_add]; exact cell _ _ f2⟩
end

/-- Block g is just two numbers. -/
def Two (w : World) (g : Nat) (x y : Int) : Prop := w.heap[g]? = some (.cells #[.int .i64 x, .int .i64 y] 24 (0, 0))
section
variable {w w' : World} {g : Nat} {x y : Int}
theorem Two.lt (h : Two w g x y) : g < w.heap.size := (Array.getElem?_eq_some_iff.1 h).1
theorem Two.cell (h : Two w g x y) : w.cell? ⟨g, 0, none⟩ = some (.int .i64 x) ∧ w.cell? ⟨g, 1, none⟩ = some (.int .i64 y) := by
  unfold Two at h
  exact ⟨by rw [cell_of_row w g 0 _ _ (0, 0) h]; rfl, by rw [cell_of_row w g 1 _ _ (0, 0) h]; rfl⟩
theorem Two.free (h : Two w g x y) (o : Nat) : w.frozen? ⟨g, o, none⟩ = false := by
  unfold Two at h
  simp [World.frozen?, h]
theorem Two.facts (h : Two w g x y) : w.cell? ⟨g, 0, none⟩ = some (.int .i64 x) ∧ w.cell? ⟨g, 1, none⟩ = some (.int .i64 y) ∧ w.frozen? ⟨g, 0, none⟩ = false ∧ w.frozen? ⟨g, 1, none⟩ = false := ⟨h.cell.1, h.cell.2, h.free 0, h.free 1⟩
theorem Two.new (w : World) (x y : Int) : Two (w.alloc (.cells #[.int .i64 x, .int .i64 y] 24)) w.heap.size x y := heap_alloc_new w _
theorem Two.drewN (h : Two w g x y) (n : Nat) : Two (w.drewN n) g x y := h
theorem Two.drew (h : Two w g x y) : Two w.drew g x y := h
theorem Two.alloc (h : Two w g x y) (o : Obj) : Two (w.alloc o) g x y := (Below.heap_alloc w o g h.lt).trans h
theorem Two.below {B : Nat} (h : Two w g x y) (hb : Below B w w') (hg : g < B) : Two w' g x y := (hb.block g hg).trans h
theorem Two.far (h : Two w g x y) {p : Addr} (hp : g ≠ p.block) (u : Value) : Two (w.setCell p u) g x y := (Below.heap_setCell w p u g hp).trans h
theorem Two.set0 (h : Two w g x y) (u : Int) : Two (w.setCell ⟨g, 0, none⟩ (.int .i64 u)) g u y := by
  unfold Two at h ⊢
  simp [World.setCell, Array.getElem?_modify, h]
theorem Two.set1 (h : Two w g x y) (u : Int) : Two (w.setCell ⟨g, 1, none⟩ (.int .i64 u)) g x u := by
  unfold Two at h ⊢
  simp [World.setCell, Array.getElem?_modify, h]
theorem Two.grown (h : Two w g x y) {row : Option Nat} (hg : w.grownBy w' row) (hne : some g ≠ row) : Two w' g x y := (hg.block g h.lt hne).trans h
end
end Go.Proofs.YtbbaaaomncegiaaGreatDoor
