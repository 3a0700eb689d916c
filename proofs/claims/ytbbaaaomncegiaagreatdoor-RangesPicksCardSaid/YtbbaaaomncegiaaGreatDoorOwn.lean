/-
  A slice of spans in memory of the call's own, nil and empty let in: copied, cut, sorted.
-/
import Derived.Test.YtbbaaaomncegiaaGreatDoorSrt
import Derived.Shelf.SlSortCmp.NoneTotal
namespace Go.Proofs.YtbbaaaomncegiaaGreatDoor
open Go.RowKit Go.Proofs.Spn

/-- A slice's address leads to spans in memory from base on, or there are none. -/
def Own2 (base : Nat) (w : World) (A : Option Addr) (xs : List Sp) : Prop := xs = [] ∨ ∃ blk off, A = some ⟨blk, off, none⟩ ∧ base ≤ blk ∧ blk < w.heap.size ∧ Holds2 w blk off xs
theorem Own2.spans {base : Nat} {w : World} {A : Option Addr} {xs : List Sp} (h : Own2 base w A xs) : Spans w A xs := by
  rcases h with rfl | ⟨blk, off, rfl, _, hlt, hH⟩
  · exact Spans.nil _ _
  · exact hH.spans hlt
theorem Own2.below {base : Nat} {w w' : World} {A : Option Addr} {xs : List Sp} (h : Own2 base w A xs) (hb : Below w.heap.size w w') : Own2 base w' A xs := by
  rcases h with rfl | ⟨blk, off, rfl, hB, hlt, hH⟩
  · exact .inl rfl
  · exact .inr ⟨blk, off, rfl, hB, Nat.lt_of_lt_of_le hlt hb.size, hH.below hb hlt⟩
theorem Own2.of_row {base : Nat} {w : World} {v : Value} {xs : List Sp} (h : w.ownsRow base 24 2 v xs.length (flatS xs)) : ∃ A c, v = .slice A xs.length c ∧ Own2 base w A xs ∧ xs.length ≤ c ∧ c ≤ maxLen := by
  rcases h.2 with ⟨rfl, h0⟩ | ⟨g, cap, cur, rfl, hg, hh, hn, hm, hs, hx⟩
  · exact ⟨none, 0, by rw [h0], .inl (List.eq_nil_of_length_eq_zero h0), by omega, Nat.zero_le _⟩
  · have hlt : g < w.heap.size := (Array.getElem?_eq_some_iff.1 hh).1
    refine ⟨some ⟨g, 0, none⟩, cap, rfl, .inr ⟨g, 0, rfl, hg, hlt, fun i x hi => ?_⟩, hn, hm⟩
    obtain ⟨f1, f2⟩ := flatS_one xs i x hi
    have cell : ∀ j u, (flatS xs)[j]? = some u → w.cell? ⟨g, j, none⟩ = some u := fun j u hj => by
      rw [cell_of_row w g j cur _ (0, 0) hh]
      rw [← hx, List.getElem?_take] at hj
      split at hj
      · simpa using hj
      · cases hj
    have fr : ∀ o, w.frozen? ⟨g, o, none⟩ = false := fun o => by simp [World.frozen?, hh]
    rw [Nat.zero_add]
    exact ⟨cell _ _ f1, cell _ _ f2, fr _, fr _⟩

theorem below_of_gb {base blk : Nat} {w w' : World} (h : w.grownBy w' (some blk)) (hb : base ≤ blk) (hs : base ≤ w.heap.size) : Below base w w' :=
  (Below.refl base w).grown h hs (fun k e => by cases e; exact hb)

set_option maxHeartbeats 1000000 in
theorem delete_own (g : Nat) (p : Sp → Bool) (eg : ∀ args w, (callFunc g args).run Tryz.prog w = .ok (.enter g args) w) (hg : Tells g p) (base : Nat) (A : Option Addr) (cap : Nat) (xs : List Sp) (w : World) (hO : Own2 base w A xs) (hbase : base ≤ w.heap.size) (hn : xs.length ≤ cap) (hcap : cap ≤ 9223372036854775807) :
    Calls Tryz.prog 48 #[.slice A xs.length cap, .func (.func g) #[] #[]] w fun e w' =>
      e = .returned (.slice A (xs.filter fun x => !p x).length cap) ∧ Own2 base w' A (xs.filter fun x => !p x) ∧ Below base w w' := by
  rcases hO with rfl | ⟨blk, off, rfl, hB, hlt, hH⟩
  · have hI := index_any g p eg hg A cap [] w (Spans.nil _ _) (by simp)
    rw [show idxS p [] = -1 from rfl] at hI
    simp only [List.length_nil, List.filter_nil] at hI ⊢
    go_enter Tryz.func48, Tryz.ntmps48
    go_wp2_with (go_at_call 55; refine hI.mono ?_; rintro e w' ⟨rfl, hb⟩)
    go_ret
    exact ⟨rfl, .inl rfl, hb.mono hbase⟩
  · refine (delete_any g p eg hg blk off cap xs w hH hlt hn hcap).mono ?_
    rintro e w' ⟨rfl, h1, h2⟩
    exact ⟨rfl, .inr ⟨blk, off, rfl, hB, Nat.lt_of_lt_of_le hlt h2.size, h1⟩, below_of_gb h2 hB hbase⟩

theorem sort_own (g : Nat) (eg : ∀ args w, (callFunc g args).run Tryz.prog w = .ok (.enter g args) w) (hg : ByA g) (base : Nat) (A : Option Addr) (cap : Nat) (xs : List Sp) (w : World) (hO : Own2 base w A xs) (hbase : base ≤ w.heap.size) (hsz : xs.length < 4611686018427387904) :
    Calls Tryz.prog 50 #[.slice A xs.length cap, .func (.func g) #[] #[]] w fun e w' =>
      e = .returned (.tuple #[]) ∧ ∃ d : List Sp, d.Perm xs ∧ Rising d ∧ Own2 base w' A d ∧ Below base w w' := by
  rcases hO with rfl | ⟨blk, off, rfl, hB, hlt, hH⟩
  · have hcon := AnyF.slices_SortFunc_none Tryz.sortSp A cap (.func (.func g) #[] #[]) w
    change Calls Tryz.prog 50 _ _ _ at hcon
    refine hcon.mono ?_
    rintro e w' ⟨rfl, rfl⟩
    exact ⟨rfl, [], List.Perm.refl _, trivial, .inl rfl, Below.refl _ _⟩
  · refine (sort_any g eg hg blk off cap xs w hH hlt hsz).mono ?_
    rintro e w' ⟨rfl, d, h1, h2, h3, h4⟩
    exact ⟨rfl, d, h1, h2, .inr ⟨blk, off, rfl, hB, Nat.lt_of_lt_of_le hlt h4.size, h3⟩, below_of_gb h4 hB hbase⟩

end Go.Proofs.YtbbaaaomncegiaaGreatDoor
