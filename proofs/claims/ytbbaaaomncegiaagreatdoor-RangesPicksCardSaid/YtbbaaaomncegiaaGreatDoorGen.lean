/-
  Words for memory at whatever elements: a slice that reads as a row of elements of k cells each, nil let in; a block that is known whole.
-/
import Derived.Test.YtbbaaaomncegiaaGreatDoorProg
import Derived.WalkKit
import Derived.WalkLawsBesides
import Derived.WalkSpells
import Derived.Lib.Hide
import Derived.Deep.Draws
import Derived.Laws.OwnMore
import Derived.Laws.Rows
namespace Go.Proofs.YtbbaaaomncegiaaGreatDoor
open Go.RowKit

theorem bl {a w : World} (h : Below a.heap.size a w) (o : Obj) : Below a.heap.size a (w.alloc o) := h.alloc h.size o
theorem bt {a w w' : World} (h : Below a.heap.size a w) (k : Below w.heap.size w w') : Below a.heap.size a w' := h.trans (k.mono h.size)
theorem bcell {W w1 : World} (hb : Below W.heap.size W w1) : (∀ b o, b < W.heap.size → w1.cell? ⟨b, o, none⟩ = W.cell? ⟨b, o, none⟩) ∧ (∀ b o, b < W.heap.size → w1.frozen? ⟨b, o, none⟩ = W.frozen? ⟨b, o, none⟩) :=
  ⟨fun b o h => hb.cell (p := ⟨b, o, none⟩) h, fun b o h => hb.frozen (p := ⟨b, o, none⟩) h⟩
theorem bdn {a w : World} (h : Below a.heap.size a w) (n : Nat) : Below a.heap.size a (w.drewN n) := ⟨h.os, h.tape, h.output, h.size, h.block⟩
theorem bd {a w : World} (h : Below a.heap.size a w) : Below a.heap.size a w.drew := ⟨h.os, h.tape, h.output, h.size, h.block⟩
theorem bset {a w : World} (h : Below a.heap.size a w) {p : Addr} (hp : a.heap.size ≤ p.block) (u : Value) : Below a.heap.size a (w.setCell p u) := h.setCell hp u

/-! ### Rows -/
section
variable {α : Type} {enc : α → List Value} {k : Nat}

/-- The elements' cells, one behind the other. -/
def flatL (enc : α → List Value) : List α → List Value
  | [] => []
  | x :: r => enc x ++ flatL enc r
theorem flatL_length (hk : ∀ x, (enc x).length = k) (l : List α) : (flatL enc l).length = l.length * k := by
  induction l with
  | nil => simp [flatL]
  | cons x r ih => simp only [flatL, List.length_append, List.length_cons, ih, hk, Nat.succ_mul]; omega
theorem flatL_append (a b : List α) : flatL enc (a ++ b) = flatL enc a ++ flatL enc b := by
  induction a with
  | nil => rfl
  | cons x r ih => simp only [flatL, List.cons_append, ih, List.append_assoc]
theorem flatL_one_ (x : α) : flatL enc [x] = enc x := by simp [flatL]
theorem flatL_at (hk : ∀ x, (enc x).length = k) (l : List α) (i : Nat) (x : α) (h : l[i]? = some x) (c : Nat) (v : Value) (hv : (enc x)[c]? = some v) : (flatL enc l)[i * k + c]? = some v := by
  have hc : c < k := by have := (List.getElem?_eq_some_iff.1 hv).1; rw [hk] at this; exact this
  induction l generalizing i with
  | nil => simp at h
  | cons s r ih =>
    cases i with
    | zero =>
      simp at h; subst h
      simp only [flatL, Nat.zero_mul, Nat.zero_add]
      rw [List.getElem?_append_left (by rw [hk]; exact hc)]; exact hv
    | succ i =>
      simp only [flatL]
      have e : (i + 1) * k + c = (enc s).length + (i * k + c) := by rw [hk, Nat.succ_mul]; omega
      rw [e, List.getElem?_append_right (by omega), Nat.add_sub_cancel_left]
      exact ih i (by simpa using h)
theorem flatL_get (hk : ∀ x, (enc x).length = k) (hk0 : 0 < k) (l : List α) (j : Nat) (v : Value) (h : (flatL enc l)[j]? = some v) : ∃ x, l[j / k]? = some x ∧ (enc x)[j % k]? = some v := by
  have hj : j < l.length * k := by have := (List.getElem?_eq_some_iff.1 h).1; rw [flatL_length hk] at this; exact this
  have hi : j / k < l.length := Nat.div_lt_of_lt_mul (by rw [Nat.mul_comm]; exact hj)
  have hm : j % k < k := Nat.mod_lt _ hk0
  have hx : l[j / k]? = some l[j / k] := List.getElem?_eq_getElem hi
  have hm' : j % k < (enc l[j / k]).length := by rw [hk]; exact hm
  have hc : (enc l[j / k])[j % k]? = some (enc l[j / k])[j % k] := List.getElem?_eq_getElem hm'
  have := flatL_at hk l _ _ hx _ _ hc
  rw [show j / k * k + j % k = j by rw [Nat.mul_comm]; exact Nat.div_add_mod j k, h] at this
  cases this
  exact ⟨_, hx, hc⟩
theorem flatL_cells (h1 : ∀ x, ∀ u ∈ enc x, u.oneCell' = true) (l : List α) : ∀ u ∈ flatL enc l, u.oneCell' = true := by
  induction l with
  | nil => intro u hu; cases hu
  | cons s r ih =>
    intro u hu
    simp only [flatL, List.mem_append] at hu
    rcases hu with hu | hu
    · exact h1 s u hu
    · exact ih u hu

/-- A slice's address leads to these elements. -/
def RowAt (enc : α → List Value) (k : Nat) (w : World) (A : Option Addr) (xs : List α) : Prop :=
  ∀ i x, xs[i]? = some x → ∃ b off, A = some ⟨b, off, none⟩ ∧ b < w.heap.size ∧ ∀ c v, (enc x)[c]? = some v → w.cell? ⟨b, off + i * k + c, none⟩ = some v

variable {w w' : World} {A : Option Addr} {xs : List α}
theorem RowAt.nil (w : World) (A : Option Addr) : RowAt enc k w A [] := fun i x h => by simp at h
theorem RowAt.below (h : RowAt enc k w A xs) (hb : Below w.heap.size w w') : RowAt enc k w' A xs := fun i x hx => by
  obtain ⟨b, off, hA, hlt, h1⟩ := h i x hx
  exact ⟨b, off, hA, Nat.lt_of_lt_of_le hlt hb.size, fun c v hv => (hb.cell (p := ⟨b, _, none⟩) hlt).trans (h1 c v hv)⟩
theorem RowAt.drewN (h : RowAt enc k w A xs) (n : Nat) : RowAt enc k (w.drewN n) A xs := h
theorem RowAt.drew (h : RowAt enc k w A xs) : RowAt enc k w.drew A xs := h
theorem RowAt.grown (h : RowAt enc k w A xs) {row : Option Nat} (hg : w.grownBy w' row) (hr : ∀ a, A = some a → some a.block ≠ row) : RowAt enc k w' A xs := fun i x hx => by
  obtain ⟨b, off, hA, hlt, h1⟩ := h i x hx
  have hne := hr _ hA
  exact ⟨b, off, hA, Nat.lt_of_lt_of_le hlt hg.size, fun c v hv => (World.cell?_of_block (hg.block b hlt hne)).trans (h1 c v hv)⟩
theorem RowAt.take (h : RowAt enc k w A xs) (n : Nat) : RowAt enc k w A (xs.take n) := fun i x hx => h i x (by
  rw [List.getElem?_take] at hx
  split at hx
  · exact hx
  · cases hx)
theorem RowAt.add (hk : ∀ x, (enc x).length = k) (hk0 : 0 < k) {a : Addr} (h : RowAt enc k w (some a) xs) : ∀ j u, (flatL enc xs)[j]? = some u → w.cell? (a.add j) = some u := by
  intro j u hj
  obtain ⟨x, hx, hc⟩ := flatL_get hk hk0 xs j u hj
  obtain ⟨b, off, e, _, h1⟩ := h _ _ hx
  cases e
  rw [Addr.add_lit]
  have := h1 _ _ hc
  rw [Nat.add_assoc, show j / k * k + j % k = j by rw [Nat.mul_comm]; exact Nat.div_add_mod j k] at this
  exact this
theorem RowAt.new (hk : ∀ x, (enc x).length = k) (w : World) (t : TypeId) (l : List α) : RowAt enc k (w.alloc (.cells (flatL enc l).toArray t)) (some ⟨w.heap.size, 0, none⟩) l := fun i x hx => by
  refine ⟨w.heap.size, 0, rfl, by simp, fun c v hv => ?_⟩
  have := flatL_at hk l i x hx c v hv
  rw [Nat.zero_add]; simpa using this
/-- What the call owns reads as the elements. -/
theorem RowAt.of_own (hk : ∀ x, (enc x).length = k) {base : Nat} {t : TypeId} {v : Value} (h : w.ownsRow base t k v xs.length (flatL enc xs)) : ∃ A c, v = .slice A xs.length c ∧ RowAt enc k w A xs ∧ xs.length ≤ c ∧ c ≤ maxLen ∧ (A = none ↔ v = .slice none 0 0) ∧ ∀ a, A = some a → base ≤ a.block ∧ a.block < w.heap.size := by
  rcases h.2 with ⟨rfl, h0⟩ | ⟨g, cap, cur, rfl, hg, hh, hn, hm, hs, hx⟩
  · rw [h0]
    refine ⟨none, 0, rfl, ?_, Nat.le_refl _, Nat.zero_le _, by simp, fun a e => by cases e⟩
    rw [List.eq_nil_of_length_eq_zero h0]
    exact RowAt.nil _ _
  · have hlt : g < w.heap.size := (Array.getElem?_eq_some_iff.1 hh).1
    refine ⟨some ⟨g, 0, none⟩, cap, rfl, fun i x hi => ?_, hn, hm, by simp, fun a e => by cases e; exact ⟨hg, hlt⟩⟩
    refine ⟨g, 0, rfl, hlt, fun c v hv => ?_⟩
    have hj := flatL_at hk xs i x hi c v hv
    rw [Nat.zero_add, cell_of_row w g _ cur _ (0, 0) hh]
    rw [← hx, List.getElem?_take] at hj
    split at hj
    · simpa using hj
    · cases hj
/-- An element put behind. -/
theorem own_snoc {base : Nat} {t : TypeId} {v : Value} {x : α} (h : w.ownsRow base t k v (xs.length + 1) (flatL enc xs ++ enc x)) : w.ownsRow base t k v (xs ++ [x]).length (flatL enc (xs ++ [x])) := by
  rw [flatL_append, flatL_one_, List.length_append]; exact h
end

theorem ob {w w' : World} {base size n : Nat} {e : TypeId} {v : Value} {xs : List Value} (h : w.ownsRow base e size v n xs) (hb : Below w.heap.size w w') : w'.ownsRow base e size v n xs :=
  h.kept (row := none) ⟨hb.os, hb.tape, hb.output, hb.size, fun k hk _ => hb.block k hk⟩ (by cases v.ownBlock <;> simp)
theorem ownsRow_base {w : World} {base base' size n : Nat} {e : TypeId} {v : Value} {xs : List Value} (h : w.ownsRow base e size v n xs) (hb : base' ≤ base) : w.ownsRow base' e size v n xs :=
  ⟨h.1, h.2.elim Or.inl (fun ⟨g, cap, cur, hv, hg, r⟩ => Or.inr ⟨g, cap, cur, hv, Nat.le_trans hb hg, r⟩)⟩
theorem cells_new (w : World) (t : TypeId) (l : List Value) : ∀ (j : Nat) (u : Value), l[j]? = some u → (w.alloc (.cells l.toArray t)).cell? ((⟨w.heap.size, 0, none⟩ : Addr).add j) = some u := by
  intro j u h
  rw [Addr.add_lit, Nat.zero_add]
  simpa using h

/-! ### A block that is known whole -/
def Blk (w : World) (g : Nat) (t : TypeId) (cs : Array Value) : Prop := w.heap[g]? = some (.cells cs t (0, 0))
section
variable {w w' : World} {g : Nat} {t : TypeId} {cs : Array Value}
theorem Blk.lt (h : Blk w g t cs) : g < w.heap.size := (Array.getElem?_eq_some_iff.1 h).1
theorem Blk.cell (h : Blk w g t cs) (i : Nat) : w.cell? ⟨g, i, none⟩ = cs[i]? := cell_of_row w g i cs t (0, 0) h
theorem Blk.frozen (h : Blk w g t cs) (i : Nat) : w.frozen? ⟨g, i, none⟩ = false := by
  unfold Blk at h
  simp [World.frozen?, h]
theorem Blk.new (w : World) (t : TypeId) (cs : Array Value) : Blk (w.alloc (.cells cs t)) w.heap.size t cs := heap_alloc_new w _
theorem Blk.drew (h : Blk w g t cs) : Blk w.drew g t cs := h
theorem Blk.drewN (h : Blk w g t cs) (n : Nat) : Blk (w.drewN n) g t cs := h
theorem Blk.alloc (h : Blk w g t cs) (o : Obj) : Blk (w.alloc o) g t cs := (Below.heap_alloc w o g h.lt).trans h
theorem Blk.set_ (h : Blk w g t cs) (i : Nat) (u : Value) : Blk (w.setCell ⟨g, i, none⟩ u) g t (cs.setIfInBounds i u) := by
  unfold Blk at h ⊢
  simp [World.setCell, Array.getElem?_modify, h]
theorem Blk.far (h : Blk w g t cs) {p : Addr} (hp : g ≠ p.block) (u : Value) : Blk (w.setCell p u) g t cs := (Below.heap_setCell w p u g hp).trans h
theorem Blk.below {B : Nat} (h : Blk w g t cs) (hb : Below B w w') (hg : g < B) : Blk w' g t cs := (hb.block g hg).trans h
theorem Blk.keep (h : Blk w g t cs) (hb : Below w.heap.size w w') : Blk w' g t cs := (hb.block g h.lt).trans h
theorem Blk.grown {row : Option Nat} (h : Blk w g t cs) (hb : w.grownBy w' row) (hg : some g ≠ row) : Blk w' g t cs := (hb.block g h.lt hg).trans h
end
theorem keep1 {w0 W W' : World} {a : Addr} {v : Value} (hq : Below W.heap.size W W') (h : W.cell? a = some v ∧ Hid (Below w0.heap.size w0 W)) : W'.cell? a = some v ∧ Hid (Below w0.heap.size w0 W') :=
  ⟨(hq.cell (World.block_lt_of_cell? _ _ h.1)).trans h.1, bt h.2.out hq⟩
/-! ### Blocks of three -/
section
variable {w : World} {g : Nat} {t : TypeId} {a0 a1 a2 : Value}
theorem Blk.facts3 (h : Blk w g t #[a0, a1, a2]) : w.cell? ⟨g, 0, none⟩ = some a0 ∧ w.cell? ⟨g, 1, none⟩ = some a1 ∧ w.cell? ⟨g, 2, none⟩ = some a2 := ⟨h.cell 0, h.cell 1, h.cell 2⟩
theorem Blk.free3 (h : Blk w g t #[a0, a1, a2]) : w.frozen? ⟨g, 0, none⟩ = false ∧ w.frozen? ⟨g, 1, none⟩ = false ∧ w.frozen? ⟨g, 2, none⟩ = false := ⟨h.frozen 0, h.frozen 1, h.frozen 2⟩
theorem Blk.set3 (h : Blk w g t #[a0, a1, a2]) (b0 b1 b2 : Value) : Blk (((w.setCell ⟨g, 0, none⟩ b0).setCell ⟨g, 1, none⟩ b1).setCell ⟨g, 2, none⟩ b2) g t #[b0, b1, b2] := by
  have := ((h.set_ 0 b0).set_ 1 b1).set_ 2 b2
  simpa using this
end
theorem bset3 {a w : World} (h : Below a.heap.size a w) {g : Nat} (hg : a.heap.size ≤ g) (b0 b1 b2 : Value) : Below a.heap.size a (((w.setCell ⟨g, 0, none⟩ b0).setCell ⟨g, 1, none⟩ b1).setCell ⟨g, 2, none⟩ b2) :=
  bset (bset (bset h hg _) hg _) hg _
theorem gen_world {F G : World → Prop} (W : World) (h : F W) (hg : ∀ W, F W → G W) : G W := hg W h

/-! ### Blocks of five -/
section
variable {w : World} {g : Nat} {t : TypeId} {a0 a1 a2 a3 a4 : Value}
theorem Blk.facts5 (h : Blk w g t #[a0, a1, a2, a3, a4]) :
    w.cell? ⟨g, 0, none⟩ = some a0 ∧ w.cell? ⟨g, 1, none⟩ = some a1 ∧ w.cell? ⟨g, 2, none⟩ = some a2 ∧ w.cell? ⟨g, 3, none⟩ = some a3 ∧ w.cell? ⟨g, 4, none⟩ = some a4 :=
  ⟨h.cell 0, h.cell 1, h.cell 2, h.cell 3, h.cell 4⟩
theorem Blk.free5 (h : Blk w g t #[a0, a1, a2, a3, a4]) :
    w.frozen? ⟨g, 0, none⟩ = false ∧ w.frozen? ⟨g, 1, none⟩ = false ∧ w.frozen? ⟨g, 2, none⟩ = false ∧ w.frozen? ⟨g, 3, none⟩ = false ∧ w.frozen? ⟨g, 4, none⟩ = false :=
  ⟨h.frozen 0, h.frozen 1, h.frozen 2, h.frozen 3, h.frozen 4⟩
theorem Blk.set5 (h : Blk w g t #[a0, a1, a2, a3, a4]) (b0 b1 b2 b3 b4 : Value) :
    Blk (((((w.setCell ⟨g, 0, none⟩ b0).setCell ⟨g, 1, none⟩ b1).setCell ⟨g, 2, none⟩ b2).setCell ⟨g, 3, none⟩ b3).setCell ⟨g, 4, none⟩ b4) g t #[b0, b1, b2, b3, b4] := by
  have := ((((h.set_ 0 b0).set_ 1 b1).set_ 2 b2).set_ 3 b3).set_ 4 b4
  simpa using this
end
theorem bset5 {a w : World} (h : Below a.heap.size a w) {g : Nat} (hg : a.heap.size ≤ g) (b0 b1 b2 b3 b4 : Value) : Below a.heap.size a (((((w.setCell ⟨g, 0, none⟩ b0).setCell ⟨g, 1, none⟩ b1).setCell ⟨g, 2, none⟩ b2).setCell ⟨g, 3, none⟩ b3).setCell ⟨g, 4, none⟩ b4) :=
  bset (bset (bset (bset (bset h hg _) hg _) hg _) hg _) hg _
end Go.Proofs.YtbbaaaomncegiaaGreatDoor
