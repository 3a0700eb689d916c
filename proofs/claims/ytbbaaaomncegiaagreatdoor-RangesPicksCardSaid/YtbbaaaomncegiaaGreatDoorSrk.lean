/-
  The library's words for a sorted row of structs, and plain lists: no program in sight.
-/
import Derived.Shelf.SlSortCmp.WholeK
namespace Go.Proofs.YtbbaaaomncegiaaGreatDoor
open Go.RowKit Go.Sort Go.Lib

/-- A row of elements of k cells each that may be written. -/
def HoldsL {α : Type} (enc : α → List Value) (k : Nat) (w : World) (blk off : Nat) (d : List α) : Prop :=
  ∀ i x c v, d[i]? = some x → (enc x)[c]? = some v → w.cell? ⟨blk, off + i * k + c, none⟩ = some v ∧ w.frozen? ⟨blk, off + i * k + c, none⟩ = false

theorem holdsK_of {α : Type} [Inhabited α] {enc : α → List Value} {k : Nat} {w : World} {blk off : Nat} {d : List α} (hk : ∀ x, (enc x).length = k) (h : HoldsL enc k w blk off d) : HoldsK enc k w blk off d.toArray := by
  intro j hj
  have hj' : j < d.length * k := by simpa using hj
  have k0 : 0 < k := by
    rcases Nat.eq_zero_or_pos k with e | e
    · subst e; simp at hj'
    · exact e
  have hi : j / k < d.length := Nat.div_lt_of_lt_mul (by rw [Nat.mul_comm]; exact hj')
  have hc : j % k < (enc d[j / k]).length := by rw [hk]; exact Nat.mod_lt _ k0
  have := h (j / k) d[j / k] (j % k) (enc d[j / k])[j % k] (List.getElem?_eq_getElem hi) (List.getElem?_eq_getElem hc)
  have e : off + j / k * k + j % k = off + j := by
    have := Nat.div_add_mod j k
    rw [Nat.mul_comm] at this
    omega
  rw [e] at this
  rw [get_flatK enc k d.toArray j (by simpa using hj')]
  have e2 : d.toArray[j / k]! = d[j / k] := by
    rw [getElem!_pos d.toArray (j / k) (by simpa using hi)]; simp
  rw [e2, getElem!_pos (enc d[j / k]) (j % k) hc]
  exact this

theorem of_holdsK {α : Type} [Inhabited α] {enc : α → List Value} {k : Nat} {w : World} {blk off : Nat} {d : Array α} (hk : ∀ x, (enc x).length = k) (h : HoldsK enc k w blk off d) : HoldsL enc k w blk off d.toList := by
  intro i x c v hx hv
  obtain ⟨hi, rfl⟩ := List.getElem?_eq_some_iff.1 hx
  obtain ⟨hc, rfl⟩ := List.getElem?_eq_some_iff.1 hv
  have hi' : i < d.size := by simpa using hi
  have := h.cell hi' (c := c) (by rw [← hk]; exact hc)
  rw [getElem!_pos d i hi'] at this
  have e : d.toList[i] = d[i] := by simp
  simp only [e] at hc ⊢
  rw [getElem!_pos (enc d[i]) c hc] at this
  exact this

theorem grownBy_sortWorldK {α : Type} [Inhabited α] (enc : α → List Value) (k : Nat) (w : World) (blk off m : Nat) (d : Array α) (os : Array Obj) : w.grownBy (sortWorldK enc k w blk off m d os) (some blk) := by
  refine ⟨rfl, rfl, rfl, ?_, fun i hi hne => ?_⟩
  · unfold sortWorldK putRowK
    rw [size_grow, size_putRow]
    exact Nat.le_add_right _ _
  · unfold sortWorldK
    rw [heap_grow_old _ _ (by unfold putRowK; rw [size_putRow]; exact hi)]
    unfold putRowK putRow mapBlock
    show ((Sort.ahead w m).heap.modify blk _)[i]? = _
    rw [Array.getElem?_modify, if_neg (fun e => hne (by rw [e]))]
    rfl

theorem perm_of_permIn {α : Type} [Inhabited α] {d d' : Array α} (h : PermIn 0 d.size d d') : d'.toList.Perm d.toList := by
  have e := h.2.2
  rw [show d.extract 0 d.size = d by simp, ← h.1, show d'.extract 0 d'.size = d' by simp] at e
  exact e

theorem pairwise_of_sortedIn {α : Type} [Inhabited α] {lt : α → α → Bool} {d : Array α} (h : SortedIn lt 0 d.size d) : d.toList.Pairwise fun a b => lt b a = false := by
  rw [List.pairwise_iff_getElem]
  intro i j hi hj hij
  have hi' : i < d.size := by simpa using hi
  have hj' : j < d.size := by simpa using hj
  have := h i j (Nat.zero_le _) hij hj'
  rw [getElem!_pos d i hi', getElem!_pos d j hj'] at this
  simpa using this

end Go.Proofs.YtbbaaaomncegiaaGreatDoor
