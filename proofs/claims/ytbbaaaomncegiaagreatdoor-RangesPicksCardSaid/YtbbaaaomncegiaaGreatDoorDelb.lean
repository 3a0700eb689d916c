/-
  slices.DeleteFunc at spans: the row without those that the function value tells, in place; nothing else that was there turns.
-/
import Derived.Test.YtbbaaaomncegiaaGreatDoorDel
namespace Go.Proofs.YtbbaaaomncegiaaGreatDoor
open Go.RowKit Go.Proofs.Spn

/-- A row of spans that may be written. -/
def Holds2 (w : World) (blk off : Nat) (d : List Sp) : Prop := ∀ i x, d[i]? = some x → w.cell? ⟨blk, off + i * 2, none⟩ = some (.int .i64 x.1) ∧ w.cell? ⟨blk, off + i * 2 + 1, none⟩ = some (.int .i64 x.2) ∧ w.frozen? ⟨blk, off + i * 2, none⟩ = false ∧ w.frozen? ⟨blk, off + i * 2 + 1, none⟩ = false
section
variable {w w' : World} {blk off : Nat} {d : List Sp}
theorem Holds2.spans (h : Holds2 w blk off d) (hb : blk < w.heap.size) : Spans w (some ⟨blk, off, none⟩) d := fun i x hx => ⟨blk, off, rfl, hb, (h i x hx).1, (h i x hx).2.1⟩
theorem Holds2.below {B : Nat} (h : Holds2 w blk off d) (hb : Below B w w') (hB : blk < B) : Holds2 w' blk off d := fun i x hx => by
  obtain ⟨a, b, c, e⟩ := h i x hx
  exact ⟨(hb.cell (p := ⟨blk, _, none⟩) hB).trans a, (hb.cell (p := ⟨blk, _, none⟩) hB).trans b, (hb.frozen (p := ⟨blk, _, none⟩) hB).trans c, (hb.frozen (p := ⟨blk, _, none⟩) hB).trans e⟩
theorem Holds2.drewN (h : Holds2 w blk off d) (n : Nat) : Holds2 (w.drewN n) blk off d := h
theorem Holds2.prefix_ {d' : List Sp} (h : Holds2 w blk off d) (n : Nat) (e : d' = d.take n) : Holds2 w blk off d' := fun i x hx => h i x (by
  rw [e, List.getElem?_take] at hx
  split at hx
  · exact hx
  · cases hx)
/-- One element stored. -/
theorem Holds2.set_ (h : Holds2 w blk off d) (i : Nat) (hi : i < d.length) (x : Sp) : Holds2 ((w.setCell ⟨blk, off + i * 2, none⟩ (.int .i64 x.1)).setCell ⟨blk, off + i * 2 + 1, none⟩ (.int .i64 x.2)) blk off (d.set i x) := by
  intro j y hy
  have hfr : ∀ o, ((w.setCell ⟨blk, off + i * 2, none⟩ (.int .i64 x.1)).setCell ⟨blk, off + i * 2 + 1, none⟩ (.int .i64 x.2)).frozen? ⟨blk, o, none⟩ = w.frozen? ⟨blk, o, none⟩ := fun o => by simp
  rw [hfr, hfr]
  by_cases e : i = j
  · subst e
    rw [List.getElem?_set_self hi] at hy
    cases hy
    obtain ⟨a, b, c, f⟩ := h i d[i] (List.getElem?_eq_getElem hi)
    refine ⟨?_, ?_, c, f⟩
    · rw [World.cell?_setCell_other _ _ _ _ (by simp)]
      exact World.cell?_setCell_same _ _ _ a
    · refine World.cell?_setCell_same _ _ _ (u := .int .i64 d[i].2) ?_
      rw [World.cell?_setCell_other _ _ _ _ (by simp)]
      exact b
  · rw [List.getElem?_set_ne e] at hy
    obtain ⟨a, b, c, f⟩ := h j y hy
    refine ⟨?_, ?_, c, f⟩
    · rw [World.cell?_setCell_other _ _ _ _ (by simp <;> omega), World.cell?_setCell_other _ _ _ _ (by simp <;> omega)]
      exact a
    · rw [World.cell?_setCell_other _ _ _ _ (by simp <;> omega), World.cell?_setCell_other _ _ _ _ (by simp <;> omega)]
      exact b
end

/-- The row, j elements gone through, i of them kept. -/
structure KeptI (p : Sp → Bool) (xs : List Sp) (j i : Nat) (dk : List Sp) : Prop where
  len : dk.length = xs.length
  le : i < j
  kept : dk.take i = (xs.take j).filter fun x => !p x
  rest : dk.drop j = xs.drop j
theorem KeptI.high {p : Sp → Bool} {xs dk : List Sp} {i j : Nat} (h : KeptI p xs j i dk) : dk[j]? = xs[j]? := by
  have e : ∀ l : List Sp, l[j]? = (l.drop j)[0]? := fun l => by rw [List.getElem?_drop, Nat.add_zero]
  rw [e dk, e xs, h.rest]
theorem KeptI.keep {p : Sp → Bool} {xs dk : List Sp} {i j : Nat} {x : Sp} (h : KeptI p xs j i dk) (hx : xs[j]? = some x) (hp : p x = false) : KeptI p xs (j + 1) (i + 1) (dk.set i x) := by
  have hj : j < xs.length := (List.getElem?_eq_some_iff.1 hx).1
  have hi : i < dk.length := by rw [h.len]; have := h.le; omega
  refine ⟨by rw [List.length_set]; exact h.len, by have := h.le; omega, ?_, ?_⟩
  · rw [take_snoc (dk.set i x) i x (List.getElem?_set_self hi), List.take_set_of_le (Nat.le_refl i), h.kept, take_snoc xs j x hx, List.filter_append]
    simp [hp]
  · rw [List.drop_set_of_lt (by have := h.le; omega), ← List.drop_drop, h.rest, List.drop_drop]
theorem KeptI.skip {p : Sp → Bool} {xs dk : List Sp} {i j : Nat} {x : Sp} (h : KeptI p xs j i dk) (hx : xs[j]? = some x) (hp : p x = true) : KeptI p xs (j + 1) i dk := by
  refine ⟨h.len, by have := h.le; omega, ?_, ?_⟩
  · rw [h.kept, take_snoc xs j x hx, List.filter_append]
    simp [hp]
  · rw [← List.drop_drop, h.rest, List.drop_drop]
theorem KeptI.start {p : Sp → Bool} {xs : List Sp} {k : Nat} {x : Sp} (hx : xs[k]? = some x) (hp : p x = true) (h : ∀ y, y ∈ xs.take k → p y = false) : KeptI p xs (k + 1) k xs := by
  refine ⟨rfl, by omega, ?_, rfl⟩
  rw [take_snoc xs k x hx, List.filter_append, List.filter_eq_self.2 (fun y hy => by simp [h y hy])]
  simp [hp]

/-- What idxS gives. -/
theorem idxS_spec (p : Sp → Bool) (l : List Sp) : (idxS p l = -1 ∧ ∀ y, y ∈ l → p y = false) ∨ ∃ (k : Nat) (x : Sp), idxS p l = (k : Int) ∧ k < l.length ∧ l[k]? = some x ∧ p x = true ∧ ∀ y, y ∈ l.take k → p y = false := by
  unfold idxS
  cases h : l.findIdx? p with
  | none => exact .inl ⟨rfl, List.findIdx?_eq_none_iff.1 h⟩
  | some k =>
    obtain ⟨hl, hp, hb⟩ := List.findIdx?_eq_some_iff_getElem.1 h
    refine .inr ⟨k, l[k], rfl, hl, List.getElem?_eq_getElem hl, hp, fun y hy => ?_⟩
    obtain ⟨j, hj, rfl⟩ := List.mem_iff_getElem.1 hy
    rw [List.length_take] at hj
    have := hb j (by omega)
    rw [List.getElem_take]
    simpa using this

/-- 'clear' on a row of spans. -/
theorem run_clear_spans (w : World) (ty : TypeId) (b o n c : Nat) (hn : 0 < n)
    (hc : ∀ j, j < n * 2 → (w.cell? ⟨b, o + j, none⟩).isSome = true) (hf : ∀ j, j < n * 2 → w.frozen? ⟨b, o + j, none⟩ = false) :
    (Builtin.clear_ #[22] ty #[.slice (some ⟨b, o, none⟩) n c]).run Tryz.prog w = .ok (.tuple #[]) (w.setCells b o (List.replicate (n * 2) (.int .i64 0))) := by
  have hv : ∀ w, (zeroValue 24).run Tryz.prog w = .ok (.agg #[.int .i64 0, .int .i64 0]) w := fun _ => by kernel_rfl
  have hzc : (Builtin.zeroCells (Value.agg #[.int .i64 0, .int .i64 0]).cells n).toList = List.replicate (n * 2) (.int .i64 0) := by
    apply List.ext_getElem
    · simp [Builtin.zeroCells, Value.cells]
    · intro i h1 h2
      have : i % 2 = 0 ∨ i % 2 = 1 := by omega
      rcases this with g | g <;> simp [Builtin.zeroCells, Value.cells, g]
  have hst := run_storeCells_cells (P := Tryz.prog) b o (List.replicate (n * 2) (.int .i64 0)) 0 w (by simpa using hc) (by simpa using hf) (by intro v hv'; rw [List.eq_of_mem_replicate hv']; rfl)
  simp only [Nat.add_zero] at hst
  obtain ⟨m, rfl⟩ : ∃ m, n = m + 1 := ⟨n - 1, by omega⟩
  simp only [Builtin.clear_]
  simp [run_underlying Tryz.underlying22, hv, hzc, hst]

theorem grownBy_setCells (b : Nat) : ∀ (vs : List Value) (o : Nat) (w : World), w.grownBy (w.setCells b o vs) (some b)
  | [], _, w => ⟨rfl, rfl, rfl, Nat.le_refl _, fun _ _ _ => rfl⟩
  | v :: r, o, w => by
    have h := grownBy_setCells b r (o + 1) (w.setCell ⟨b, o, none⟩ v)
    refine ⟨h.os, h.tape, h.output, Nat.le_trans (by simp [World.setCell]) h.size, fun k hk hne => ?_⟩
    have := h.block k (by simpa [World.setCell] using hk) hne
    exact this.trans (Below.heap_setCell w _ v k (fun e => hne (by rw [e])))

end Go.Proofs.YtbbaaaomncegiaaGreatDoor
