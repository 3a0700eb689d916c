/-
  'clear' on a row of parts that the call owns: blocks of parts keep their sizes, all other blocks stand as they stood.
-/
import Derived.Test.YtbbaaaomncegiaaGreatDoorPkb
namespace Go.Proofs.YtbbaaaomncegiaaGreatDoor
open Go.RowKit Go.Proofs.Spn Go.Proofs.Rng Go.Proofs.Prn

theorem run_clear_frags (w : World) (ty : TypeId) (b o n c : Nat) (hn : 0 < n)
    (hc : ∀ j, j < n * 7 → (w.cell? ⟨b, o + j, none⟩).isSome = true) (hf : ∀ j, j < n * 7 → w.frozen? ⟨b, o + j, none⟩ = false) :
    (Builtin.clear_ #[36] ty #[.slice (some ⟨b, o, none⟩) n c]).run Tryz.prog w = .ok (.tuple #[]) (w.setCells b o (List.replicate (n * 7) (.int .i64 0))) := by
  have hv : ∀ w, (zeroValue 61).run Tryz.prog w = .ok (.agg #[.int .i64 0, .int .i64 0, .int .i64 0, .int .i64 0, .int .i64 0, .int .i64 0, .int .i64 0]) w := fun _ => by kernel_rfl
  have hzc : (Builtin.zeroCells (Value.agg #[.int .i64 0, .int .i64 0, .int .i64 0, .int .i64 0, .int .i64 0, .int .i64 0, .int .i64 0]).cells n).toList = List.replicate (n * 7) (.int .i64 0) := by
    apply List.ext_getElem
    · simp [Builtin.zeroCells, Value.cells]
    · intro i h1 h2
      have : i % 7 = 0 ∨ i % 7 = 1 ∨ i % 7 = 2 ∨ i % 7 = 3 ∨ i % 7 = 4 ∨ i % 7 = 5 ∨ i % 7 = 6 := by omega
      rcases this with g | g | g | g | g | g | g <;> simp [Builtin.zeroCells, Value.cells, g]
  have hst := run_storeCells_cells (P := Tryz.prog) b o (List.replicate (n * 7) (.int .i64 0)) 0 w (by simpa using hc) (by simpa using hf) (by intro v hv'; rw [List.eq_of_mem_replicate hv']; rfl)
  simp only [Nat.add_zero] at hst
  obtain ⟨m, rfl⟩ : ∃ m, n = m + 1 := ⟨n - 1, by omega⟩
  simp only [Builtin.clear_]
  simp [run_underlying Tryz.underlying36, hv, hzc, hst]
theorem grown_setCells (b : Nat) : ∀ (vs : List Value) (o : Nat) (w : World), w.grownBy (w.setCells b o vs) (some b)
  | [], _, w => ⟨rfl, rfl, rfl, Nat.le_refl _, fun _ _ _ => rfl⟩
  | v :: r, o, w => by
    have h := grown_setCells b r (o + 1) (w.setCell ⟨b, o, none⟩ v)
    refine ⟨h.os, h.tape, h.output, Nat.le_trans (by simp [World.setCell]) h.size, fun k hk hne => ?_⟩
    have := h.block k (by simpa [World.setCell] using hk) hne
    exact this.trans (Below.heap_setCell w _ v k (fun e => hne (by rw [e])))
theorem blk_setCells (b : Nat) (t : TypeId) : ∀ (vs : List Value) (o : Nat) (w : World) (cs : Array Value), Blk w b t cs → ∃ cs', Blk (w.setCells b o vs) b t cs' ∧ cs'.size = cs.size
  | [], _, w, cs, h => ⟨cs, h, rfl⟩
  | v :: r, o, w, cs, h => by
    obtain ⟨cs', h1, h2⟩ := blk_setCells b t r (o + 1) (w.setCell ⟨b, o, none⟩ v) _ (h.set_ o v)
    exact ⟨cs', h1, by rw [h2]; simp⟩

/-- A row of parts that may be cleared: none, or in a block from base on. -/
def ClrOk (base : Nat) (w : World) (s : Sl) : Prop := s.n = 0 ∨ ∃ g cs, s.A = some ⟨g, 0, none⟩ ∧ Blk w g 61 cs ∧ s.n * 7 ≤ cs.size ∧ base ≤ g
theorem ClrOk.of {base B : Nat} {w : World} {s : Sl} {l : List Frag} (h : FrA w base B s l) : ClrOk base w s := by
  have hn := own_n h.1
  rcases h.1.2 with ⟨_, h0⟩ | ⟨g, cap, cur, hv, hg, hh, hc, hm, hs, hx⟩
  · exact .inl (by omega)
  · obtain ⟨A, n, c⟩ := s
    injection hv with e1 e2 e3
    subst e1 e2
    exact .inr ⟨g, cur, rfl, hh, by rw [hs]; exact Nat.mul_le_mul_right _ hc, hg⟩
/-- What a clearing leaves. -/
structure Clrd (base : Nat) (w w' : World) : Prop where
  below : Below base w w'
  size : w.heap.size ≤ w'.heap.size
  other : ∀ g t cs, t ≠ 61 → Blk w g t cs → Blk w' g t cs
  parts : ∀ g cs, Blk w g 61 cs → ∃ cs', Blk w' g 61 cs' ∧ cs'.size = cs.size
theorem Clrd.refl (base : Nat) (w : World) : Clrd base w w := ⟨Below.refl _ _, Nat.le_refl _, fun _ _ _ _ h => h, fun _ cs h => ⟨cs, h, rfl⟩⟩
theorem Clrd.trans {base : Nat} {w w' w'' : World} (h : Clrd base w w') (k : Clrd base w' w'') : Clrd base w w'' :=
  ⟨h.below.trans k.below, Nat.le_trans h.size k.size, fun g t cs ht hb => k.other g t cs ht (h.other g t cs ht hb), fun g cs hb => by
    obtain ⟨c1, h1, h2⟩ := h.parts g cs hb
    obtain ⟨c2, k1, k2⟩ := k.parts g c1 h1
    exact ⟨c2, k1, k2.trans h2⟩⟩
theorem Clrd.ok {base : Nat} {w w' : World} (h : Clrd base w w') {s : Sl} (hs : ClrOk base w s) : ClrOk base w' s := by
  rcases hs with h0 | ⟨g, cs, h1, h2, h3, h4⟩
  · exact .inl h0
  · obtain ⟨cs', k1, k2⟩ := h.parts g cs h2
    exact .inr ⟨g, cs', h1, k1, by omega, h4⟩
theorem Clrd.own {base b n size : Nat} {w w' : World} (h : Clrd base w w') {t : TypeId} (ht : t ≠ 61) {v : Value} {xs : List Value} (ho : w.ownsRow b t size v n xs) : w'.ownsRow b t size v n xs :=
  ⟨ho.1, ho.2.elim .inl fun ⟨g, cap, cur, hv, hb, hg, r⟩ => .inr ⟨g, cap, cur, hv, hb, h.other g t cur ht hg, r⟩⟩
theorem clear_frags {base : Nat} {w : World} {s : Sl} (h : ClrOk base w s) (hb : base ≤ w.heap.size) :
    ∃ w', (∀ ty, (Builtin.clear_ #[36] ty #[s.v]).run Tryz.prog w = .ok (.tuple #[]) w') ∧ Clrd base w w' := by
  obtain ⟨A, n, c⟩ := s
  rcases Nat.eq_zero_or_pos n with e | e
  · subst e
    refine ⟨w, fun ty => ?_, Clrd.refl _ _⟩
    cases A with
    | none => simp [Builtin.clear_, run_underlying Tryz.underlying36, Sl.v]
    | some a => simp [Builtin.clear_, run_underlying Tryz.underlying36, Sl.v]
  · rcases h with h0 | ⟨g, cs, h1, h2, h3, h4⟩
    · simp only at h0; omega
    · simp only at h1 h3
      subst h1
      have hg := grown_setCells g (List.replicate (n * 7) (.int .i64 0)) 0 w
      refine ⟨_, fun ty => run_clear_frags w ty g 0 n c e (fun j hj => ?_) (fun j _ => ?_), ?_⟩
      · rw [Nat.zero_add, h2.cell, Array.getElem?_eq_getElem (by omega)]; rfl
      · rw [Nat.zero_add]; exact h2.frozen j
      · refine ⟨(Below.refl base w).grown hg hb fun k e => by cases e; exact h4, hg.size, fun g' t cs' ht hb' => ?_, fun g' cs' hb' => ?_⟩
        · refine hb'.grown hg fun e' => ?_
          injection e' with e'
          subst e'
          unfold Blk at h2 hb'
          rw [h2] at hb'
          injection hb' with hb'
          injection hb' with _ e2
          exact ht e2.symm
        · by_cases e' : g' = g
          · subst e'
            exact blk_setCells _ _ _ _ _ _ hb'
          · exact ⟨cs', hb'.grown hg fun e2 => e' (by injection e2), rfl⟩
end Go.Proofs.YtbbaaaomncegiaaGreatDoor
