/-
  cmp.Or of four numbers, sheets.order, slices.SortFunc at slots: the row holds the same slots, none ahead of one before it; nothing else that was there turns.
-/
import Derived.Test.YthiplocjiamahaaShd
import Derived.Test.YthiplocjiamahaaShelf
import Derived.Test.YthiplocjiamahaaSrk
import Derived.Shelf.SlSortCmp.NoneTotal
namespace Go.Proofs.Ythiplocjiamahaa
open Go.RowKit Go.Proofs.Shs Go.Sort

def cmpI (a b : Int) : Int := if a < b then -1 else if b < a then 1 else 0
def firstI (l : List Int) : Int := (l.find? (· ≠ 0)).getD 0
def orI (a b c d : Int) : Int := if a ≠ 0 then a else if b ≠ 0 then b else if c ≠ 0 then c else d
def cmpSl (x y : Slot) : Int := orI (cmpI x.sheet y.sheet) (cmpI x.side y.side) (cmpI x.row y.row) (cmpI x.col y.col)
def encSl (s : Slot) : List Value := [.int .i64 s.sheet, .int .i64 s.side, .int .i64 s.row, .int .i64 s.col, .int .i64 s.page]
theorem encSl_len (x : Slot) : (encSl x).length = 5 := rfl
theorem encSl_cells (x : Slot) : ∀ u ∈ encSl x, u.oneCell' = true := by intro u hu; simp [encSl] at hu; rcases hu with rfl | rfl | rfl | rfl | rfl <;> rfl
theorem cmpI_lt {a b : Int} (h : a < b) : cmpI a b = -1 := by unfold cmpI; rw [if_pos h]
theorem cmpI_gt {a b : Int} (h : b < a) : cmpI a b = 1 := by unfold cmpI; rw [if_neg (by omega), if_pos h]
theorem cmpI_self (a : Int) : cmpI a a = 0 := by unfold cmpI; simp
theorem lt_cmp (x y : Slot) : ltOf cmpSl x y = decide (Ahead x y) := by
  obtain ⟨x0, x1, x2, x3, x4⟩ := x
  obtain ⟨y0, y1, y2, y3, y4⟩ := y
  rw [Bool.eq_iff_iff, decide_eq_true_eq]
  unfold ltOf cmpSl Ahead
  simp only [decide_eq_true_eq]
  rcases Int.lt_trichotomy x0 y0 with h | rfl | h
  · rw [cmpI_lt h, show ∀ b c d, orI (-1) b c d = -1 from fun _ _ _ => rfl]; omega
  · rw [cmpI_self]
    rcases Int.lt_trichotomy x1 y1 with h | rfl | h
    · rw [cmpI_lt h, show ∀ c d, orI 0 (-1) c d = -1 from fun _ _ => rfl]; omega
    · rw [cmpI_self]
      rcases Int.lt_trichotomy x2 y2 with h | rfl | h
      · rw [cmpI_lt h, show ∀ d, orI 0 0 (-1) d = -1 from fun _ => rfl]; omega
      · rw [cmpI_self, show ∀ d, orI 0 0 0 d = d from fun _ => rfl]
        rcases Int.lt_trichotomy x3 y3 with h | rfl | h
        · rw [cmpI_lt h]; omega
        · rw [cmpI_self]; omega
        · rw [cmpI_gt h]; omega
      · rw [cmpI_gt h, show ∀ d, orI 0 0 1 d = 1 from fun _ => rfl]; omega
    · rw [cmpI_gt h, show ∀ c d, orI 0 1 c d = 1 from fun _ _ => rfl]; omega
  · rw [cmpI_gt h, show ∀ b c d, orI 1 b c d = 1 from fun _ _ _ => rfl]; omega
theorem swoSl : SWO (ltOf cmpSl) where
  irrefl x := by rw [lt_cmp]; simpa using Ahead.irrefl x
  trans x y z h1 h2 := by rw [lt_cmp] at *; simp only [decide_eq_true_eq] at *; exact h1.trans h2
  ntrans x y z h1 h2 := by rw [lt_cmp] at *; simp only [decide_eq_false_iff_not] at *; unfold Ahead at *; omega

set_option maxHeartbeats 1000000 in
theorem compare_any (a b : Int) (w : World) : Calls Try.prog 37 #[.int .i64 a, .int .i64 b] w fun e w' => e = .returned (.int .i64 (cmpI a b)) ∧ w = w' := by
  rcases Int.lt_trichotomy a b with h | h | h
  · have E := Lib.hid (show cmpI a b = -1 by unfold cmpI; rw [if_pos h])
    go_enter Try.func37, Try.ntmps37
    go_wp2
    go_ret
    exact ⟨by rw [E.out]; rfl, rfl⟩
  · subst h
    have E := Lib.hid (show cmpI a a = 0 by unfold cmpI; simp)
    go_enter Try.func37, Try.ntmps37
    go_wp2
    go_ret
    exact ⟨by rw [E.out]; rfl, rfl⟩
  · have E := Lib.hid (show cmpI a b = 1 by unfold cmpI; rw [if_neg (by omega), if_pos h])
    have h2 : ¬ a < b := by omega
    go_enter Try.func37, Try.ntmps37
    go_wp2
    go_ret
    exact ⟨by rw [E.out]; rfl, rfl⟩

set_option maxHeartbeats 4000000 in
theorem or_any (g : Nat) (l : List Int) (w : World) (hc : ∀ i x, l[i]? = some x → w.cell? ⟨g, i, none⟩ = some (.int .i64 x)) (hl : l.length ≤ 1000) :
    Calls Try.prog 36 #[.slice (some ⟨g, 0, none⟩) l.length l.length] w fun e w' => e = .returned (.int .i64 (firstI l)) ∧ w = w' := by
  have HC := Lib.hid hc
  clear hc
  go_enter Try.func36, Try.ntmps36
  go_wp2
  go_loop [8] (fun i => ∃ k : Nat, k ≤ l.length ∧ i = .int .i64 k ∧ Hid (∀ y, y ∈ l.take k → y = 0)) (fun i => l.length - (intOf i).toNat)
  case atStart => exact ⟨0, Nat.zero_le _, rfl, fun y hy => by simp at hy⟩
  case round =>
    obtain ⟨k, hk, rfl, HN⟩ := hrel
    by_cases hlt : k < l.length
    · obtain ⟨x, hx⟩ : ∃ x, l[k]? = some x := ⟨_, List.getElem?_eq_getElem hlt⟩
      have c1 := HC.out k x hx
      have HX := Lib.hid hx
      clear hx
      by_cases h0 : x = 0
      · subst h0
        go_wp2
        go_round
        case rel => exact ⟨k + 1, by omega, by go_num, fun y hy => by
          rw [List.take_add_one, HX.out] at hy
          rcases List.mem_append.1 hy with hy | hy
          · exact HN.out y hy
          · simpa using hy⟩
        case measure => simp [intOf]; omega
      · have h1 : (x != 0) = true := by simpa using h0
        have E : Hid (firstI l = x) := by
          show _ = _
          unfold firstI
          have e : l = l.take k ++ x :: l.drop (k + 1) := by
            have := (List.take_append_drop k l).symm
            obtain ⟨hk', hx'⟩ := List.getElem?_eq_some_iff.1 HX.out
            rw [List.drop_eq_getElem_cons hk', hx'] at this
            exact this
          rw [e, List.find?_append, List.find?_eq_none.2 (fun y hy => by simp [HN.out y hy])]
          simp [h0]
        clear h0
        go_wp2
        go_ret
        exact ⟨by rw [E.out]; rfl, rfl⟩
    · have E : Hid (firstI l = 0) := by
        show _ = _
        unfold firstI
        have h := HN.out
        rw [show k = l.length by omega, List.take_length] at h
        rw [List.find?_eq_none.2 (fun y hy => by simp [h y hy])]; rfl
      go_wp2
      go_ret
      exact ⟨by rw [E.out]; rfl, rfl⟩

theorem orI_find (a b c d : Int) : firstI [a, b, c, d] = orI a b c d := by
  unfold orI firstI
  by_cases ha : a = 0
  · by_cases hb : b = 0
    · by_cases hc : c = 0
      · by_cases hd : d = 0 <;> simp [ha, hb, hc, hd]
      · simp [ha, hb, hc]
    · simp [ha, hb]
  · simp [ha]

theorem or4_any (a b c d : Int) (w : World) :
    Calls Try.prog 36 #[.slice (some ⟨w.heap.size, 0, none⟩) 4 4] (w.alloc (.cells #[.int .i64 a, .int .i64 b, .int .i64 c, .int .i64 d] 3)) fun e w' => e = .returned (.int .i64 (orI a b c d)) ∧ w.alloc (.cells #[.int .i64 a, .int .i64 b, .int .i64 c, .int .i64 d] 3) = w' := by
  have := or_any w.heap.size [a, b, c, d] (w.alloc (.cells #[.int .i64 a, .int .i64 b, .int .i64 c, .int .i64 d] 3)) (fun i x hx => by
    rw [(Blk.new w _ _).cell i]
    match i, hx with
    | 0, hx => simp at hx; subst hx; rfl
    | 1, hx => simp at hx; subst hx; rfl
    | 2, hx => simp at hx; subst hx; rfl
    | 3, hx => simp at hx; subst hx; rfl
    | i + 4, hx => simp at hx) (by simp)
  rw [orI_find] at this
  exact this

end Go.Proofs.Ythiplocjiamahaa
