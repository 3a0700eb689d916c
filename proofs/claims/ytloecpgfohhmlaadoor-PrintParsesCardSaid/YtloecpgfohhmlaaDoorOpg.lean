/-
  How arguments open that are structs of whole numbers, by value or in slices: to lists of numbers, whatever the number of fields.
-/
import Derived.Test.YtloecpgfohhmlaaDoorGen
import Derived.ProofKit
import Derived.Lib.SmallJoins
import Derived.Deep.Slices
import Derived.Deep.Fields
namespace Go.Proofs.YtloecpgfohhmlaaDoor
open Go.ChangeShapes Go.WideShapes Go.RowKit Go.Deep Go.Joins

theorem own_ : ownKnob Tryd.prog.godebug = none := by kernel_rfl
theorem laidOut_ : laidOutB Tryd.prog = true := by kernel_rfl

/-- Numbers as cells. -/
def encN (l : List Int) : List Value := l.map (Value.int .i64)

section
variable {H : Type} {enc : TypeId × Value → H} {w : World} {base : Nat} {spare : Nat → Bool} {held : Bool}

/-- The cells of a struct of numbers. -/
theorem cells_ints {t ti : TypeId} {fs : Array Field} (hs : Tryd.prog.underlying t = some (.struct fs)) (hone : oneCellFields Tryd.prog fs = true) (hC : Tryd.prog.cellsOf t = fs.size) (hty : ∀ (i : Nat) (f : Field), fs[i]? = some f → f.type = ti)
    (hti : Tryd.prog.underlying ti = some (.int .i64)) {fuel : Nat} {cs : List Value} {x : DataW H × List MemPlace} (h : DataW.trod enc Tryd.prog w base spare held fuel t cs = some x) :
    ∃ l : List Int, cs = encN l ∧ l.length = fs.size ∧ ∀ y, y ∈ l → (Lit.int .i64 y).wf = true := by
  obtain ⟨xs, n, _, _, hcl, hxl, hg⟩ := DataW.trod_struct hs h
  have key : ∀ i, i < cs.length → ∃ y, cs[i]? = some (.int .i64 y) ∧ (Lit.int .i64 y).wf = true := fun i hi => by
    have hif : i < fs.size := by omega
    obtain ⟨o, k⟩ := hone_of hone i fs[i] (Array.getElem?_eq_getElem hif)
    have hgi := hg i fs[i] (Array.getElem?_eq_getElem hif)
    rw [o, k, List.drop_eq_getElem_cons hi, List.take_succ_cons, List.take_zero, List.getElem?_eq_getElem (by omega : i < xs.length), hty i fs[i] (Array.getElem?_eq_getElem hif)] at hgi
    obtain ⟨y, hy, _, hw⟩ := DataW.trod_int hti hgi
    refine ⟨y, ?_, hw⟩
    rw [List.getElem?_eq_getElem hi]
    simpa using hy
  have gen : ∀ cs : List Value, (∀ i, i < cs.length → ∃ y, cs[i]? = some (.int .i64 y) ∧ (Lit.int .i64 y).wf = true) → ∃ l : List Int, cs = encN l ∧ ∀ y, y ∈ l → (Lit.int .i64 y).wf = true := by
    intro cs
    induction cs with
    | nil => intro _; exact ⟨[], rfl, fun y hy => by cases hy⟩
    | cons v r ih =>
      intro hk
      obtain ⟨y, hy, hw⟩ := hk 0 (by simp)
      obtain ⟨l, rfl, hl⟩ := ih fun i hi => by
        have := hk (i + 1) (by simpa using hi)
        simpa using this
      simp at hy
      subst hy
      refine ⟨y :: l, rfl, fun z hz => ?_⟩
      rcases List.mem_cons.1 hz with rfl | hz
      · exact hw
      · exact hl z hz
  obtain ⟨l, e, hl⟩ := gen cs key
  refine ⟨l, e, ?_, hl⟩
  have : cs.length = l.length := by rw [e]; simp [encN]
  omega

/-- A slice of structs of numbers. -/
theorem open_rows {tt t ti : TypeId} {fs : Array Field} (hsl : Tryd.prog.underlying tt = some (.slice t)) (hs : Tryd.prog.underlying t = some (.struct fs)) (hone : oneCellFields Tryd.prog fs = true) (hC : Tryd.prog.cellsOf t = fs.size) (hty : ∀ (i : Nat) (f : Field), fs[i]? = some f → f.type = ti)
    (hti : Tryd.prog.underlying ti = some (.int .i64)) (h0 : 0 < fs.size) {fuel : Nat} {A : Option Addr} {len cap : Nat} {x : DataW H × List MemPlace} (h : DataW.trod enc Tryd.prog w base spare held fuel tt [.slice A len cap] = some x) :
    ∃ xs : List (List Int), xs.length = len ∧ (∀ l, l ∈ xs → l.length = fs.size ∧ ∀ y, y ∈ l → (Lit.int .i64 y).wf = true) ∧ RowAt encN fs.size w A xs ∧ len ≤ cap ∧ cap ≤ maxLen ∧ (A = none → cap = 0) := by
  rcases open_slice hsl h with ⟨hcs, _⟩ | ⟨a, l, c, m, n, D, Pl, hcs, hb, hl, hm, hmm, _, hx⟩
  · simp at hcs
    obtain ⟨rfl, rfl, rfl⟩ := hcs
    exact ⟨[], rfl, (fun l hl => by cases hl), RowAt.nil _ _, Nat.le_refl _, Nat.zero_le _, fun _ => rfl⟩
  · simp at hcs
    obtain ⟨rfl, rfl, rfl⟩ := hcs
    have hlm : len ≤ m := by rw [hmm]; split <;> omega
    have hi : ∀ i, i < len → ∃ q : List Int, q.length = fs.size ∧ (∀ y, y ∈ q → (Lit.int .i64 y).wf = true) ∧ ∀ j v, (encN q)[j]? = some v → w.cell? (a.add (i * fs.size + j)) = some v := fun i hi => by
      obtain ⟨cs', hc, ht⟩ := hx i (by omega)
      obtain ⟨q, e, hql, hqw⟩ := cells_ints hs hone hC hty hti ht
      subst e
      refine ⟨q, hql, hqw, fun j v hv => ?_⟩
      obtain ⟨_, hcl, hat⟩ := World.cells?_some hc
      have hj : j < Tryd.prog.cellsOf t := by
        have := (List.getElem?_eq_some_iff.1 hv).1
        rw [hcl] at this; exact this
      have := hat j hj
      rw [Go.Deep.add_add, hC] at this
      rw [this, hv]
    obtain ⟨f, hf⟩ := choose_lt hi
    have hspot : len = 0 ∨ ∃ b off, a = ⟨b, off, none⟩ := by
      rcases Nat.eq_zero_or_pos len with e | e
      · exact .inl e
      · right
        obtain ⟨b, off, spot⟩ := a
        obtain ⟨q1, _, q3⟩ := hf 0 e
        obtain ⟨v, hv⟩ : ∃ v, (encN (f 0))[0]? = some v := ⟨_, List.getElem?_eq_getElem (by simp [encN, q1]; exact h0)⟩
        have := q3 0 v hv
        have hs : spot = none := by simpa [Addr.add] using World.cell?_spot this
        exact ⟨b, off, by rw [hs]⟩
    refine ⟨(List.range len).map f, by simp, fun l hl => ?_, fun i y hy => ?_, hl, hm, fun e => by cases e⟩
    · obtain ⟨i, hi', rfl⟩ := List.mem_map.1 hl
      have := hf i (List.mem_range.1 hi')
      exact ⟨this.1, this.2.1⟩
    · have hil : i < len := by have := (List.getElem?_eq_some_iff.1 hy).1; simpa using this
      have hye : y = f i := by
        simp [hil] at hy
        exact hy.symm
      subst hye
      rcases hspot with e | ⟨b, off, rfl⟩
      · omega
      · have q := hf i hil
        have cell : ∀ j v, (encN (f i))[j]? = some v → w.cell? ⟨b, off + i * fs.size + j, none⟩ = some v := fun j v hv => by
          have := q.2.2 j v hv
          rw [Addr.add_lit, ← Nat.add_assoc] at this
          exact this
        have hlt : b < w.heap.size := by
          obtain ⟨v, hv⟩ : ∃ v, (encN (f i))[0]? = some v := ⟨_, List.getElem?_eq_getElem (by simp [encN, q.1]; exact h0)⟩
          exact World.block_lt_of_cell? _ _ (cell 0 v hv)
        exact ⟨b, off, rfl, hlt, cell⟩
end
end Go.Proofs.YtloecpgfohhmlaaDoor
