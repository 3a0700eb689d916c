/-
  gatefoldref33.All, Count, Same: what they return; below the heap's size at the call nothing turns.
-/
import Derived.Test.YthiplocjiamahaaShg
import Derived.Test.YthiplocjiamahaaShk
import Derived.Test.YthiplocjiamahaaShx
namespace Go.Proofs.Ythiplocjiamahaa
open Go.RowKit Go.Proofs.Shs

instance : DecidableEq Slot := fun a b => by
  obtain ⟨a0, a1, a2, a3, a4⟩ := a
  obtain ⟨b0, b1, b2, b3, b4⟩ := b
  rw [Slot.mk.injEq]
  infer_instance
/-- A slot's cells. -/
theorem RowAt.slot {w : World} {A : Option Addr} {xs : List Slot} {i : Nat} {x0 x1 x2 x3 x4 : Int} (h : RowAt encSl 5 w A xs) (hx : xs[i]? = some ⟨x0, x1, x2, x3, x4⟩) :
    ∃ b off, A = some ⟨b, off, none⟩ ∧ b < w.heap.size ∧ w.cell? ⟨b, off + i * 5, none⟩ = some (.int .i64 x0) ∧ w.cell? ⟨b, off + i * 5 + 1, none⟩ = some (.int .i64 x1) ∧ w.cell? ⟨b, off + i * 5 + 2, none⟩ = some (.int .i64 x2) ∧ w.cell? ⟨b, off + i * 5 + 3, none⟩ = some (.int .i64 x3) ∧ w.cell? ⟨b, off + i * 5 + 4, none⟩ = some (.int .i64 x4) := by
  obtain ⟨b, off, e, hb, hc⟩ := h i _ hx
  exact ⟨b, off, e, hb, hc 0 _ rfl, hc 1 _ rfl, hc 2 _ rfl, hc 3 _ rfl, hc 4 _ rfl⟩

set_option maxHeartbeats 4000000 in
theorem rall_any (kd r c s sh n : Int) (w : World) : Calls Try.prog 15 #[.agg #[.int .i64 kd, .int .i64 r, .int .i64 c, .int .i64 s, .int .i64 sh], .int .i64 n] w (GivesAll ⟨kd, r, c, s, sh⟩ n w) := by
  have co := fun W => rmay_any kd r c s sh W
  cases hm : mayP ⟨kd, r, c, s, sh⟩ with
  | false =>
    have E := Lib.hid (allP_no ⟨kd, r, c, s, sh⟩ n (by rw [hm]; simp))
    rw [hm] at co
    clear hm
    go_enter Try.func15, Try.ntmps15
    go_wp2_with fail
    refine (co _).mono ?_
    rintro e w1 ⟨rfl, hb⟩
    go_wp2_with fail
    go_ret
    unfold GivesAll
    rw [E.out]
    exact ⟨none, 0, rfl, Nat.le_refl _, Nat.zero_le _, RowAt.nil _ _, bt (bl (Below.refl _ _) _) hb⟩
  | true =>
    by_cases hf : n < 0 ∨ 999999 < n
    · have E := Lib.hid (allP_no ⟨kd, r, c, s, sh⟩ n (by omega))
      rw [hm] at co
      clear hm
      rcases hf with hf | hf
      all_goals
        go_enter Try.func15, Try.ntmps15
        go_wp2_with fail
        refine (co _).mono ?_
        rintro e w1 ⟨rfl, hb⟩
        go_wp2_with fail
        go_ret
        unfold GivesAll
        rw [E.out]
        exact ⟨none, 0, rfl, Nat.le_refl _, Nat.zero_le _, RowAt.nil _ _, bt (bl (Below.refl _ _) _) hb⟩
    · obtain ⟨N, rfl⟩ := Int.eq_ofNat_of_zero_le (show 0 ≤ n by omega)
      have f1 : (0 : Int) ≤ (N : Int) := by omega
      have f2 : (N : Int) ≤ 999999 := by omega
      rcases may_cases _ hm with ⟨rfl, h1, h2, h3, h4, h5, h6, rfl⟩ | ⟨rfl, h1, h2, rfl, rfl, rfl⟩
      · simp only at h1 h2 h3 h4 h5 h6
        obtain ⟨r, rfl⟩ := Int.eq_ofNat_of_zero_le (show 0 ≤ r by omega)
        obtain ⟨c, rfl⟩ := Int.eq_ofNat_of_zero_le (show 0 ≤ c by omega)
        obtain ⟨s, rfl⟩ := Int.eq_ofNat_of_zero_le (show 0 ≤ s by omega)
        have cg := fun W => rgrid_any r c s N W (by omega) (by omega) (by omega) (by omega) (by omega) (by omega) (by omega)
        have e := allP_gl r c s N (by omega) (by omega) (by omega) (by omega) (by omega) (by omega) (by omega)
        rw [← e] at cg
        rw [hm] at co
        obtain ⟨L, hL⟩ : ∃ L, allP ⟨1, r, c, s, 0⟩ N = L := ⟨_, rfl⟩
        rw [hL] at cg
        have HL := Lib.hid hL
        clear e hm hf hL h1 h2 h3 h4 h5 h6
        go_enter Try.func15, Try.ntmps15
        go_wp2_with fail
        refine (co _).mono ?_
        rintro e w1 ⟨rfl, hb⟩
        obtain ⟨p0, p1, p2, p3, p4⟩ := ((Blk.new w 23 #[.int .i64 1, .int .i64 r, .int .i64 c, .int .i64 s, .int .i64 0]).keep hb).facts5
        go_wp2_with fail
        refine (cg _).mono ?_
        rintro e w2 ⟨v, rfl, hown, hb2⟩
        obtain ⟨A, cp, rfl, hA, hl1, hl2, _⟩ := RowAt.of_own encSl_len hown
        go_wp2_with fail
        go_ret
        unfold GivesAll
        rw [HL.out]
        exact ⟨A, cp, rfl, hl1, hl2, hA, bt (bt (bl (Below.refl _ _) _) hb) hb2⟩
      · simp only at h1 h2
        obtain ⟨s, rfl⟩ := Int.eq_ofNat_of_zero_le (show 0 ≤ sh by omega)
        have cg := fun W => rbooks_any s N W (by omega) (by omega) (by omega)
        have e := allP_bl s N (by omega) (by omega) (by omega)
        rw [← e] at cg
        rw [hm] at co
        obtain ⟨L, hL⟩ : ∃ L, allP ⟨2, 1, 2, 2, s⟩ N = L := ⟨_, rfl⟩
        rw [hL] at cg
        have HL := Lib.hid hL
        clear e hm hf hL h1 h2
        go_enter Try.func15, Try.ntmps15
        go_wp2_with fail
        refine (co _).mono ?_
        rintro e w1 ⟨rfl, hb⟩
        obtain ⟨p0, p1, p2, p3, p4⟩ := ((Blk.new w 23 #[.int .i64 2, .int .i64 1, .int .i64 2, .int .i64 2, .int .i64 s]).keep hb).facts5
        go_wp2_with fail
        refine (cg _).mono ?_
        rintro e w2 ⟨v, rfl, hown, hb2⟩
        obtain ⟨A, cp, rfl, hA, hl1, hl2, _⟩ := RowAt.of_own encSl_len hown
        go_wp2_with fail
        go_ret
        unfold GivesAll
        rw [HL.out]
        exact ⟨A, cp, rfl, hl1, hl2, hA, bt (bt (bl (Below.refl _ _) _) hb) hb2⟩

set_option maxHeartbeats 2000000 in
theorem rcount_any (kd r c s sh n : Int) (w : World) : Calls Try.prog 12 #[.agg #[.int .i64 kd, .int .i64 r, .int .i64 c, .int .i64 s, .int .i64 sh], .int .i64 n] w fun e w' => e = .returned (.int .i64 (cntP ⟨kd, r, c, s, sh⟩ n)) ∧ Below w.heap.size w w' := by
  have co := fun W => rall_any kd r c s sh n W
  have h1 := cnt_nil ⟨kd, r, c, s, sh⟩ n
  have h2 := last_sheet ⟨kd, r, c, s, sh⟩ n
  have h3 := len_all_le ⟨kd, r, c, s, sh⟩ n
  unfold GivesAll at co
  generalize allP ⟨kd, r, c, s, sh⟩ n = L at co h1 h2 h3
  generalize cntP ⟨kd, r, c, s, sh⟩ n = K at h1 h2 ⊢
  rcases Nat.eq_zero_or_pos L.length with h0 | h0
  · have e : L = [] := List.eq_nil_of_length_eq_zero h0
    subst e
    have E := Lib.hid (h1 rfl)
    clear h1 h2 h3 h0
    go_enter Try.func12, Try.ntmps12
    go_wp2_with fail
    refine (co _).mono ?_
    rintro e w1 ⟨A, cp, rfl, _, _, hA, hb⟩
    go_wp2_with fail
    go_ret
    exact ⟨by rw [E.out]; rfl, bt (bl (Below.refl _ _) _) hb⟩
  · obtain ⟨⟨x0, x1, x2, x3, x4⟩, hx⟩ : ∃ x, L[L.length - 1]? = some x := ⟨_, List.getElem?_eq_getElem (by omega)⟩
    have E := Lib.hid (h2 _ hx)
    have HX := Lib.hid hx
    have hne : ((L.length : Int) == 0) = false := by rw [beq_eq_false_iff_ne]; omega
    clear h1 h2 hx
    go_enter Try.func12, Try.ntmps12
    go_wp2_with fail
    refine (co _).mono ?_
    rintro e w1 ⟨A, cp, rfl, hl1, _, hA, hb⟩
    obtain ⟨b, off, rfl, hblt, c0, _, _, _, _⟩ := hA.slot HX.out
    clear hA
    go_wp2_with fail
    go_ret
    exact ⟨ret_int E.out, bt (bl (Below.refl _ _) _) hb⟩

/-! ### Same -/
def sameSl (xs ys : List Slot) : Bool := decide (xs = ys)
theorem take_snoc {α : Type} (l : List α) (k : Nat) (x : α) (h : l[k]? = some x) : l.take (k + 1) = l.take k ++ [x] := by
  rw [List.take_add_one, h]; rfl
theorem same_no {xs ys : List Slot} {k : Nat} {x y : Slot} (hx : xs[k]? = some x) (hy : ys[k]? = some y) (h : x ≠ y) : sameSl xs ys = false := by
  unfold sameSl
  simp only [decide_eq_false_iff_not]
  intro e
  rw [e, hy] at hx
  cases hx
  exact h rfl
theorem same_take {xs ys : List Slot} {k : Nat} {x : Slot} (h : xs.take k = ys.take k) (hx : xs[k]? = some x) (hy : ys[k]? = some x) : xs.take (k + 1) = ys.take (k + 1) := by
  rw [take_snoc _ _ _ hx, take_snoc _ _ _ hy, h]
/-- Where two slots differ first. -/
theorem differ {x0 x1 x2 x3 x4 y0 y1 y2 y3 y4 : Int} (h : (⟨x0, x1, x2, x3, x4⟩ : Slot) ≠ ⟨y0, y1, y2, y3, y4⟩) : (x0 == y0) = false ∨ (x0 = y0 ∧ (x1 == y1) = false) ∨ (x0 = y0 ∧ x1 = y1 ∧ (x2 == y2) = false) ∨ (x0 = y0 ∧ x1 = y1 ∧ x2 = y2 ∧ (x3 == y3) = false) ∨ (x0 = y0 ∧ x1 = y1 ∧ x2 = y2 ∧ x3 = y3 ∧ (x4 == y4) = false) := by
  simp only [ne_eq, Slot.mk.injEq, beq_eq_false_iff_ne] at *
  omega

set_option maxHeartbeats 4000000 in
theorem same_any (A B : Option Addr) (c d : Nat) (xs ys : List Slot) (w : World) (hA : RowAt encSl 5 w A xs) (hB : RowAt encSl 5 w B ys) (hn : xs.length ≤ 9223372036854775807) :
    Calls Try.prog 13 #[.slice A xs.length c, .slice B ys.length d] w fun e w' => e = .returned (.bool (sameSl xs ys)) ∧ Below w.heap.size w w' := by
  have HA := Lib.hid hA
  have HB := Lib.hid hB
  clear hA hB
  by_cases hl : xs.length = ys.length
  · have HL := Lib.hid hl
    have hl' : (((xs.length : Int)) != (ys.length : Int)) = false := by simp [hl]
    clear hl
    go_enter Try.func13, Try.ntmps13
    go_wp2
    go_loopw [5] (fun i wr => ∃ (k : Nat), k ≤ xs.length ∧ i = .int .i64 k ∧ Below w.heap.size w wr ∧ Hid (xs.take k = ys.take k))
      (fun i _ => xs.length - (intOf i).toNat)
    case atStart => exact ⟨0, Nat.zero_le _, rfl, Below.refl _ _, rfl⟩
    case round =>
      obtain ⟨k, hk, rfl, hnx, HT⟩ := hrel
      by_cases hlt : k < xs.length
      · have hlt2 : k < ys.length := by have := HL.out; omega
        obtain ⟨⟨x0, x1, x2, x3, x4⟩, hx⟩ : ∃ x, xs[k]? = some x := ⟨_, List.getElem?_eq_getElem hlt⟩
        obtain ⟨⟨y0, y1, y2, y3, y4⟩, hy⟩ : ∃ y, ys[k]? = some y := ⟨_, List.getElem?_eq_getElem hlt2⟩
        obtain ⟨b, off, rfl, hb, c0, c1, c2, c3, c4⟩ := (HA.out.below hnx).slot hx
        obtain ⟨b', off', rfl, hb', d0, d1, d2, d3, d4⟩ := (HB.out.below hnx).slot hy
        have HX := Lib.hid hx
        have HY := Lib.hid hy
        clear hx hy
        by_cases he : (⟨x0, x1, x2, x3, x4⟩ : Slot) = ⟨y0, y1, y2, y3, y4⟩
        · simp only [Slot.mk.injEq] at he
          obtain ⟨rfl, rfl, rfl, rfl, rfl⟩ := he
          have E := Lib.hid (same_take HT.out HX.out HY.out)
          go_wp2_with fail
          go_quiet (fail)
          all_goals (go_wp2_with fail)
          all_goals go_roundw
          all_goals first
            | exact ⟨k + 1, by omega, by go_num, bdn hnx _, E.out⟩
            | (simp [intOf]; omega)
        · have E := Lib.hid (same_no HX.out HY.out he)
          have hd := differ he
          clear he
          rcases hd with e0 | ⟨rfl, e0⟩ | ⟨rfl, rfl, e0⟩ | ⟨rfl, rfl, rfl, e0⟩ | ⟨rfl, rfl, rfl, rfl, e0⟩
          all_goals
            go_wp2_with fail
            go_quiet (fail)
            all_goals (go_wp2_with fail)
            all_goals go_ret
            all_goals exact ⟨by rw [E.out]; rfl, bdn hnx _⟩
      · have e : k = xs.length := by omega
        have HK := Lib.hid e
        clear e
        go_wp2
        go_ret
        refine ⟨?_, hnx⟩
        have h := HT.out
        rw [HK.out, List.take_length, HL.out, List.take_length] at h
        rw [show sameSl xs ys = true by unfold sameSl; simpa using h]
        rfl
  · have hl' : (((xs.length : Int)) != (ys.length : Int)) = true := by simp; omega
    have E := Lib.hid (show sameSl xs ys = false by unfold sameSl; simp only [decide_eq_false_iff_not]; intro e; exact hl (by rw [e]))
    clear hl
    go_enter Try.func13, Try.ntmps13
    go_wp2
    go_ret
    exact ⟨by rw [E.out]; rfl, Below.refl _ _⟩

end Go.Proofs.Ythiplocjiamahaa
