/-
  sheets.order; slices.SortFunc at slots: the row holds the same slots, none ahead of one before it; nothing else that was there turns.
-/
import Derived.Test.YthiplocjiamahaaSho
namespace Go.Proofs.Ythiplocjiamahaa
open Go.RowKit Go.Proofs.Shs Go.Sort

theorem or4_at (g : Nat) (a b c d : Int) (w : World) (hb : Blk w g 3 #[.int .i64 a, .int .i64 b, .int .i64 c, .int .i64 d]) :
    Calls Try.prog 36 #[.slice (some ⟨g, 0, none⟩) 4 4] w fun e w' => e = .returned (.int .i64 (orI a b c d)) ∧ w = w' := by
  have := or_any g [a, b, c, d] w (fun i x hx => by
    rw [hb.cell i]
    match i, hx with
    | 0, hx => simp at hx; subst hx; rfl
    | 1, hx => simp at hx; subst hx; rfl
    | 2, hx => simp at hx; subst hx; rfl
    | 3, hx => simp at hx; subst hx; rfl
    | i + 4, hx => simp at hx) (by simp)
  rw [orI_find] at this
  exact this

set_option maxHeartbeats 400000 in
theorem order_any (x y : Slot) (W : World) : Calls Try.prog 27 #[vSl x, vSl y] W fun e w' => e = .returned (.int .i64 (cmpSl x y)) ∧ ∃ q os', w' = grow (W.drewN q) os' := by
  obtain ⟨x0, x1, x2, x3, x4⟩ := x
  obtain ⟨y0, y1, y2, y3, y4⟩ := y
  unfold cmpSl
  simp only
  go_enter Try.func27, Try.ntmps27
  go_wp2_with fail
  refine wp_region_quiet_tail (C := fun w' => ∃ n, w' = ((W.alloc (.cells #[.int .i64 x0, .int .i64 x1, .int .i64 x2, .int .i64 x3, .int .i64 x4] 37)).alloc (.cells #[.int .i64 y0, .int .i64 y1, .int .i64 y2, .int .i64 y3, .int .i64 y4] 37)).drewN n) 20 (by kernel_rfl) (by kernel_rfl) ⟨1, rfl⟩ ?_
  simp only [List.take_succ_cons, List.take_zero, List.drop_succ_cons, List.drop_zero]
  repeat (go_big_quiet_step ((go_at_call 37; exact Calls.quiet_of_same ((compare_any _ _ _).mono fun e w' h => ⟨h.1, h.2.symm⟩))))
  refine wpQuiet_nil ?_
  intro _ hw'
  obtain ⟨q, rfl⟩ := hw'
  go_wp2_with fail
  refine (or4_at _ (cmpI x0 y0) (cmpI x1 y1) (cmpI x2 y2) (cmpI x3 y3) _ ?hb).mono ?_
  case hb =>
    have e : ((W.alloc (.cells #[.int .i64 x0, .int .i64 x1, .int .i64 x2, .int .i64 x3, .int .i64 x4] 37)).alloc (.cells #[.int .i64 y0, .int .i64 y1, .int .i64 y2, .int .i64 y3, .int .i64 y4] 37)).heap.size = W.heap.size + 1 + 1 := by simp
    rw [← e]
    exact Blk.new (((W.alloc (.cells #[.int .i64 x0, .int .i64 x1, .int .i64 x2, .int .i64 x3, .int .i64 x4] 37)).alloc (.cells #[.int .i64 y0, .int .i64 y1, .int .i64 y2, .int .i64 y3, .int .i64 y4] 37)).drewN q) _ _
  rintro e w' ⟨rfl, rfl⟩
  go_wp2_with fail
  go_ret
  exact ⟨rfl, q, _, by rw [alloc_eq_grow, alloc_eq_grow, alloc_eq_grow, grow_grow, show ∀ X os, World.drewN (grow X os) q = grow (World.drewN X q) os from fun _ _ => rfl, grow_grow]⟩

theorem sort_row (base : Nat) (v : Value) (xs : List Slot) (w : World) (h : w.ownsRow base 37 5 v xs.length (flatL encSl xs)) (hbase : base ≤ w.heap.size) (hsz : xs.length < 4611686018427387904) :
    Calls Try.prog 26 #[v, .func (.func 27) #[] #[]] w fun e w' => e = .returned (.tuple #[]) ∧ ∃ d : List Slot, d.Perm xs ∧ (d.Pairwise fun a b => ¬ Ahead b a) ∧ (∃ A c, v = .slice A xs.length c ∧ xs.length ≤ c ∧ c ≤ maxLen ∧ RowAt encSl 5 w' A d) ∧ Below base w w' := by
  rcases h.2 with ⟨rfl, h0⟩ | ⟨g, cap, cur, rfl, hg, hh, hn, hm, hs, hx⟩
  · have e : xs = [] := List.eq_nil_of_length_eq_zero h0
    subst e
    have hcon := AnyF.slices_SortFunc_none Try.sortSp none 0 (.func (.func 27) #[] #[]) w
    change Calls Try.prog 26 _ _ _ at hcon
    refine hcon.mono ?_
    rintro e w' ⟨rfl, rfl⟩
    exact ⟨rfl, [], List.Perm.refl _, List.Pairwise.nil, ⟨none, 0, rfl, Nat.le_refl _, Nat.zero_le _, RowAt.nil _ _⟩, Below.refl _ _⟩
  · have hlt : g < w.heap.size := (Array.getElem?_eq_some_iff.1 hh).1
    have hH : HoldsL encSl 5 w g 0 xs := fun i x c v hx' hv => by
      have hj := flatL_at encSl_len xs i x hx' c v hv
      refine ⟨?_, by simp [World.frozen?, hh]⟩
      rw [Nat.zero_add, cell_of_row w g _ cur _ (0, 0) hh]
      rw [← hx, List.getElem?_take] at hj
      split at hj
      · simpa using hj
      · cases hj
    have eg : ∀ args w, (callFunc 27 args).run Try.prog w = .ok (.enter 27 args) w := enters_of Try.func27 (by kernel_rfl) rfl
    have hcmp : CmpLays Try.prog 27 #[] encSl 5 cmpSl g 0 xs.toArray.size w := fun _ _ _ _ x y => order_any x y _
    have hK := holdsK_of encSl_len hH
    have hcon := AnyQ.slices_SortFunc Try.sortSp 5 Try.isAgg37 Try.sizeOf37 encSl encSl_len encSl_cells cmpSl swoSl 27 #[] g 0 cap xs.toArray w eg hcmp hK hlt (by simpa using hsz)
    change Calls Try.prog 26 _ _ _ at hcon
    rw [show xs.toArray.size = xs.length by simp] at hcon
    refine hcon.mono ?_
    rintro e w' ⟨rfl, d, n, os, hp, hs', rfl⟩
    have hgr := grownBy_sortWorldK encSl 5 w g 0 n d os
    have hL := of_holdsK encSl_len (holdsK_sortWorldK_c encSl 5 w g 0 xs.toArray d n os hK hlt hp.1)
    refine ⟨rfl, d.toList, ?_, ?_, ⟨some ⟨g, 0, none⟩, cap, rfl, hn, hm, fun i x hx' => ⟨g, 0, rfl, Nat.lt_of_lt_of_le hlt hgr.size, fun c v hv => (hL i x c v hx' hv).1⟩⟩, (Below.refl base w).grown hgr hbase (fun k e => by cases e; exact hg)⟩
    · have := perm_of_permIn (d := xs.toArray) (by simpa using hp)
      simpa using this
    · have hd : d.size = xs.length := by have := hp.1; simpa using this
      have := pairwise_of_sortedIn (lt := ltOf cmpSl) (d := d) (by rw [hd]; exact hs')
      refine this.imp ?_
      intro a b hab
      rw [lt_cmp] at hab
      simpa using hab

end Go.Proofs.Ythiplocjiamahaa
