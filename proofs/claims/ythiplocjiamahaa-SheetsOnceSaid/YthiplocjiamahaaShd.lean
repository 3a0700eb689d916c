/-
  sheets.of as one contract; sheets.May, Count, At; below the heap's size at the call nothing turns.
-/
import Derived.Test.YthiplocjiamahaaShc
namespace Go.Proofs.Ythiplocjiamahaa
open Go.RowKit Go.Proofs.Shs

/-- A plan's way. -/
def wayV (kd : Int) : Value × Value × Value := if kd = 1 then (fnV 40, fnV 41, fnV 42) else if kd = 2 then (fnV 43, fnV 44, fnV 45) else (.nilFunc, .nilFunc, .nilFunc)
theorem wayV_grid : wayV 1 = (fnV 40, fnV 41, fnV 42) := rfl
theorem wayV_book : wayV 2 = (fnV 43, fnV 44, fnV 45) := rfl

theorem of_any (kd r c s sh : Int) (w : World) :
    Calls Try.prog 24 #[.agg #[.int .i64 kd, .int .i64 r, .int .i64 c, .int .i64 s, .int .i64 sh]] w fun e w' => e = .returned (.tuple #[.agg #[(wayV kd).1, (wayV kd).2.1, (wayV kd).2.2], .bool (mayP ⟨kd, r, c, s, sh⟩)]) ∧ Below w.heap.size w w' := by
  by_cases h1 : kd = 1
  · subst h1
    rw [wayV_grid]
    refine of_grid r c s sh _ w fun W => ?_
    by_cases h : 1 ≤ r ∧ r ≤ 16 ∧ 1 ≤ c ∧ c ≤ 16 ∧ 1 ≤ s ∧ s ≤ 2 ∧ sh = 0
    · rw [show mayP ⟨1, r, c, s, sh⟩ = true by unfold mayP gridB; simp [h]]
      obtain ⟨a1, a2, a3, a4, a5, a6, a7⟩ := h
      exact mayGrid_yes ⟨1, r, c, s, sh⟩ W a1 a2 a3 a4 a5 a6 (by simpa using a7)
    · rw [show mayP ⟨1, r, c, s, sh⟩ = false by unfold mayP gridB bookB; simp only [Bool.or_eq_false_iff, decide_eq_false_iff_not]; exact ⟨fun g => h ⟨g.2.1, g.2.2.1, g.2.2.2.1, g.2.2.2.2.1, g.2.2.2.2.2.1, g.2.2.2.2.2.2.1, g.2.2.2.2.2.2.2⟩, fun g => by omega⟩]
      exact mayGrid_no ⟨1, r, c, s, sh⟩ W h
  · by_cases h2 : kd = 2
    · subst h2
      rw [wayV_book]
      refine of_book r c s sh _ w fun W => ?_
      by_cases h : sh < 1 ∨ 64 < sh
      · rw [show mayP ⟨2, r, c, s, sh⟩ = false by unfold mayP gridB bookB; simp only [Bool.or_eq_false_iff, decide_eq_false_iff_not]; omega]
        exact mayBook_far 2 r c s sh W h
      · have e : mayP ⟨2, r, c, s, sh⟩ = decide ((2 : Int) = 2 ∧ r = 1 ∧ c = 2 ∧ s = 2) := by
          rw [Bool.eq_iff_iff]; unfold mayP gridB bookB; simp; omega
        rw [e]
        exact mayBook_near 2 r c s sh W (by omega) (by omega)
    · rw [show wayV kd = (.nilFunc, .nilFunc, .nilFunc) by unfold wayV; rw [if_neg h1, if_neg h2], show mayP ⟨kd, r, c, s, sh⟩ = false by unfold mayP gridB bookB; simp only [Bool.or_eq_false_iff, decide_eq_false_iff_not]; omega]
      exact of_no kd r c s sh w (by omega)

theorem way3 (kd : Int) : wayV kd = (fnV 40, fnV 41, fnV 42) ∨ wayV kd = (fnV 43, fnV 44, fnV 45) ∨ wayV kd = (.nilFunc, .nilFunc, .nilFunc) := by
  unfold wayV
  split
  · exact .inl rfl
  · split
    · exact .inr (.inl rfl)
    · exact .inr (.inr rfl)

set_option maxHeartbeats 4000000 in
theorem may_any (kd r c s sh : Int) (w : World) :
    Calls Try.prog 9 #[.agg #[.int .i64 kd, .int .i64 r, .int .i64 c, .int .i64 s, .int .i64 sh]] w fun e w' => e = .returned (.bool (mayP ⟨kd, r, c, s, sh⟩)) ∧ Below w.heap.size w w' := by
  have co := fun W => of_any kd r c s sh W
  generalize mayP ⟨kd, r, c, s, sh⟩ = b at co ⊢
  rcases way3 kd with h | h | h
  all_goals
    rw [h] at co
    clear h
    go_enter Try.func9, Try.ntmps9
    go_wp2_with fail
    refine (co _).mono ?_
    rintro e w1 ⟨rfl, hb⟩
    go_wp2_with fail
    go_ret
    exact ⟨rfl, bl (bt (bl (Below.refl _ _) _) hb) _⟩

set_option maxHeartbeats 4000000 in
theorem count_any (kd r c s sh n : Int) (w : World) :
    Calls Try.prog 11 #[.agg #[.int .i64 kd, .int .i64 r, .int .i64 c, .int .i64 s, .int .i64 sh], .int .i64 n] w fun e w' => e = .returned (.int .i64 (cntP ⟨kd, r, c, s, sh⟩ n)) ∧ Below w.heap.size w w' := by
  have co := fun W => of_any kd r c s sh W
  cases hm : mayP ⟨kd, r, c, s, sh⟩ with
  | false =>
    have E := Lib.hid (show cntP ⟨kd, r, c, s, sh⟩ n = 0 by unfold cntP; rw [if_neg (by rw [hm]; simp)])
    rw [hm] at co
    clear hm
    rcases way3 kd with h | h | h
    all_goals
      rw [h] at co
      clear h
      go_enter Try.func11, Try.ntmps11
      go_wp2_with fail
      refine (co _).mono ?_
      rintro e w1 ⟨rfl, hb⟩
      go_wp2_with fail
      go_ret
      exact ⟨by rw [E.out]; rfl, bl (bt (bl (Below.refl _ _) _) hb) _⟩
  | true =>
    rw [hm] at co
    by_cases hf : n < 0 ∨ 999999 < n
    · have E := Lib.hid (show cntP ⟨kd, r, c, s, sh⟩ n = 0 by unfold cntP; rw [if_neg (by omega)])
      have cf := fun W => few_no n W hf
      clear hm hf
      rcases way3 kd with h | h | h
      all_goals
        rw [h] at co
        clear h
        go_enter Try.func11, Try.ntmps11
        go_wp2_with fail
        refine (co _).mono ?_
        rintro e w1 ⟨rfl, hb⟩
        go_wp2_with fail
        refine (cf _).mono ?_
        rintro e w' ⟨rfl, rfl⟩
        go_wp2_with fail
        go_ret
        exact ⟨by rw [E.out]; rfl, bl (bt (bl (Below.refl _ _) _) hb) _⟩
    · have f1 : 0 ≤ n := by omega
      have f2 : n ≤ 999999 := by omega
      have cf := fun W => few_yes n W f1 f2
      clear hf
      rcases may_cases _ hm with ⟨rfl, h1, h2, h3, h4, h5, h6, rfl⟩ | ⟨rfl, h1, h2, rfl, rfl, rfl⟩
      · have E := Lib.hid (show cntP ⟨1, r, c, s, 0⟩ n = (n + r * c * s - 1) / (r * c * s) by unfold cntP; rw [if_pos ⟨hm, f1, f2⟩]; rfl)
        have cg := fun W => countGrid_any 1 r c s 0 n W h1 h2 h3 h4 h5 h6 f1 f2
        rw [wayV_grid] at co
        simp only at h1 h2 h3 h4 h5 h6
        clear hm
        go_enter Try.func11, Try.ntmps11
        go_wp2_with fail
        refine (co _).mono ?_
        rintro e w1 ⟨rfl, hb⟩
        have hz : w.heap.size < w1.heap.size := by have := hb.size; simp at this; omega
        obtain ⟨t0, t1, t2, t3, t4⟩ := ((Blk.new w 23 #[.int .i64 1, .int .i64 r, .int .i64 c, .int .i64 s, .int .i64 0]).keep hb).facts5
        go_wp2_with fail
        refine (cf _).mono ?_
        rintro e w' ⟨rfl, rfl⟩
        go_wp2_with fail
        refine (cg _).mono ?_
        rintro e w2 ⟨rfl, hb2⟩
        go_wp2_with fail
        go_ret
        exact ⟨by rw [E.out]; rfl, bt (bl (bt (bl (Below.refl _ _) _) hb) _) hb2⟩
      · have E := Lib.hid (show cntP ⟨2, 1, 2, 2, sh⟩ n = (n + 4 - 1) / 4 by unfold cntP; rw [if_pos ⟨hm, f1, f2⟩]; rfl)
        have cg := fun W => countBook_any 2 1 2 2 sh n W f1 f2
        rw [wayV_book] at co
        clear hm
        go_enter Try.func11, Try.ntmps11
        go_wp2_with fail
        refine (co _).mono ?_
        rintro e w1 ⟨rfl, hb⟩
        have hz : w.heap.size < w1.heap.size := by have := hb.size; simp at this; omega
        obtain ⟨t0, t1, t2, t3, t4⟩ := ((Blk.new w 23 #[.int .i64 2, .int .i64 1, .int .i64 2, .int .i64 2, .int .i64 sh]).keep hb).facts5
        go_wp2_with fail
        refine (cf _).mono ?_
        rintro e w' ⟨rfl, rfl⟩
        go_wp2_with fail
        refine (cg _).mono ?_
        rintro e w2 ⟨rfl, hb2⟩
        go_wp2_with fail
        go_ret
        exact ⟨by rw [E.out]; rfl, bt (bl (bt (bl (Below.refl _ _) _) hb) _) hb2⟩

theorem bkAt_ok (sh n q : Int) (h1 : 1 ≤ sh) (h3 : 0 ≤ q) (h4 : q < 4 * ((n + 4 - 1) / 4)) : 0 ≤ n - (q - q % (4 * sh)) ∧ q - (q - q % (4 * sh)) ≤ 4 * (if (n - (q - q % (4 * sh)) + 4 - 1) / 4 < sh then (n - (q - q % (4 * sh)) + 4 - 1) / 4 else sh) - 1 := by
  have m1 : 0 ≤ q % (4 * sh) := Int.emod_nonneg _ (by omega)
  have m2 : q % (4 * sh) < 4 * sh := Int.emod_lt_of_pos _ (by omega)
  have m3 := Int.mul_ediv_add_emod q (4 * sh)
  rw [Int.mul_assoc] at m3
  generalize q % (4 * sh) = m at *
  generalize sh * (q / (4 * sh)) = f at *
  obtain rfl : q = 4 * f + m := by omega
  split <;> omega

/-- The way's third function, at whatever plan that is one. -/
theorem at_way (kd r c s sh n q : Int) (w : World) (hm : mayP ⟨kd, r, c, s, sh⟩ = true) (h3 : 0 ≤ q) (h4 : q ≤ 1000000000) (h5 : 0 ≤ n) (h6 : n ≤ 999999) (h7 : kd = 2 → q < 4 * ((n + 4 - 1) / 4)) :
    (kd = 1 ∧ Calls Try.prog 42 #[.agg #[.int .i64 kd, .int .i64 r, .int .i64 c, .int .i64 s, .int .i64 sh], .int .i64 n, .int .i64 q] w fun e w' => e = .returned (vSl (atP ⟨kd, r, c, s, sh⟩ n q)) ∧ Below w.heap.size w w') ∨
    (kd = 2 ∧ Calls Try.prog 45 #[.agg #[.int .i64 kd, .int .i64 r, .int .i64 c, .int .i64 s, .int .i64 sh], .int .i64 n, .int .i64 q] w fun e w' => e = .returned (vSl (atP ⟨kd, r, c, s, sh⟩ n q)) ∧ Below w.heap.size w w') := by
  rcases may_cases _ hm with ⟨rfl, a1, a2, a3, a4, a5, a6, rfl⟩ | ⟨rfl, a1, a2, rfl, rfl, rfl⟩
  · exact .inl ⟨rfl, atGrid_any 1 r c s 0 n q w a1 a2 a3 a4 a5 a6 h3 h4⟩
  · obtain ⟨b1, b2⟩ := bkAt_ok sh n q a1 h3 (h7 rfl)
    exact .inr ⟨rfl, atBook_any 2 1 2 2 sh n q w a1 a2 h3 h4 h5 h6 b1 b2⟩

set_option maxHeartbeats 8000000 in
theorem at_no (kd r c s sh n q : Int) (w : World) (h : ¬ (mayP ⟨kd, r, c, s, sh⟩ = true ∧ 0 ≤ n ∧ n ≤ 999999 ∧ 0 ≤ q ∧ q < n)) :
    Calls Try.prog 18 #[.agg #[.int .i64 kd, .int .i64 r, .int .i64 c, .int .i64 s, .int .i64 sh], .int .i64 n, .int .i64 q] w fun e w' => e = .returned (.tuple #[vSl ⟨0, 0, 0, 0, 0⟩, .bool false]) ∧ Below w.heap.size w w' := by
  have co := fun W => of_any kd r c s sh W
  cases hm : mayP ⟨kd, r, c, s, sh⟩ with
  | false =>
    rw [hm] at co
    clear hm h
    rcases way3 kd with h | h | h
    all_goals
      rw [h] at co
      clear h
      go_enter Try.func18, Try.ntmps18
      go_wp2_with fail
      refine (co _).mono ?_
      rintro e w1 ⟨rfl, hb⟩
      have hB1 : Below w.heap.size w w1 := bt (bl (bl (Below.refl _ _) _) _) hb
      have hR := ((by simpa using Blk.new (w.alloc _) 37 #[.int .i64 0, .int .i64 0, .int .i64 0, .int .i64 0, .int .i64 0] : Blk _ (w.heap.size + 1) 37 _)).keep hb
      have hz : w.heap.size + 1 < w1.heap.size := hR.lt
      obtain ⟨z0, z1, z2, z3, z4⟩ := hR.facts5
      obtain ⟨y0, y1, y2, y3, y4⟩ := hR.free5
      go_wp2_with fail
      refine gen_world (F := fun X => Blk X (w.heap.size + 1) 37 #[.int .i64 0, .int .i64 0, .int .i64 0, .int .i64 0, .int .i64 0] ∧ Below w.heap.size w X) _ ⟨(hR.set5 _ _ _ _ _).alloc _, bl (bset5 hB1 (by omega) _ _ _ _ _) _⟩ ?_
      rintro X ⟨hX, hBX⟩
      obtain ⟨x0, x1, x2, x3, x4⟩ := hX.facts5
      exact bodyPost_ret (v := .tuple #[.agg #[.int .i64 0, .int .i64 0, .int .i64 0, .int .i64 0, .int .i64 0], .bool false]) (by simp [results, Try.results18, go_sem, x0, x1, x2, x3, x4]) rfl ⟨rfl, hBX⟩
  | true =>
    rw [hm] at co
    by_cases hf : n < 0 ∨ 999999 < n
    · have cf := fun W => few_no n W hf
      clear hm hf h
      rcases way3 kd with h | h | h
      all_goals
        rw [h] at co
        clear h
        go_enter Try.func18, Try.ntmps18
        go_wp2_with fail
        refine (co _).mono ?_
        rintro e w1 ⟨rfl, hb⟩
        have hB1 : Below w.heap.size w w1 := bt (bl (bl (Below.refl _ _) _) _) hb
        have hR := ((by simpa using Blk.new (w.alloc _) 37 #[.int .i64 0, .int .i64 0, .int .i64 0, .int .i64 0, .int .i64 0] : Blk _ (w.heap.size + 1) 37 _)).keep hb
        have hz : w.heap.size + 1 < w1.heap.size := hR.lt
        obtain ⟨z0, z1, z2, z3, z4⟩ := hR.facts5
        obtain ⟨y0, y1, y2, y3, y4⟩ := hR.free5
        go_wp2_with fail
        refine (cf _).mono ?_
        rintro e w' ⟨rfl, rfl⟩
        go_wp2_with fail
        refine gen_world (F := fun X => Blk X (w.heap.size + 1) 37 #[.int .i64 0, .int .i64 0, .int .i64 0, .int .i64 0, .int .i64 0] ∧ Below w.heap.size w X) _ ⟨(hR.set5 _ _ _ _ _).alloc _, bl (bset5 hB1 (by omega) _ _ _ _ _) _⟩ ?_
        rintro X ⟨hX, hBX⟩
        obtain ⟨x0, x1, x2, x3, x4⟩ := hX.facts5
        exact bodyPost_ret (v := .tuple #[.agg #[.int .i64 0, .int .i64 0, .int .i64 0, .int .i64 0, .int .i64 0], .bool false]) (by simp [results, Try.results18, go_sem, x0, x1, x2, x3, x4]) rfl ⟨rfl, hBX⟩
    · have f1 : 0 ≤ n := by omega
      have f2 : n ≤ 999999 := by omega
      have cf := fun W => few_yes n W f1 f2
      have cb := fun W => between_no q 0 (n - 1) W (by
        rcases Int.lt_or_le q 0 with g | g
        · exact .inl g
        · right
          rcases Int.lt_or_le q n with g2 | g2
          · exact absurd ⟨hm, f1, f2, g, g2⟩ h
          · omega)
      clear hm hf h
      rcases way3 kd with h | h | h
      all_goals
        rw [h] at co
        clear h
        go_enter Try.func18, Try.ntmps18
        go_wp2_with fail
        refine (co _).mono ?_
        rintro e w1 ⟨rfl, hb⟩
        have hB1 : Below w.heap.size w w1 := bt (bl (bl (Below.refl _ _) _) _) hb
        have hR := ((by simpa using Blk.new (w.alloc _) 37 #[.int .i64 0, .int .i64 0, .int .i64 0, .int .i64 0, .int .i64 0] : Blk _ (w.heap.size + 1) 37 _)).keep hb
        have hz : w.heap.size + 1 < w1.heap.size := hR.lt
        obtain ⟨z0, z1, z2, z3, z4⟩ := hR.facts5
        obtain ⟨y0, y1, y2, y3, y4⟩ := hR.free5
        go_wp2_with fail
        refine (cf _).mono ?_
        rintro e w' ⟨rfl, rfl⟩
        go_wp2_with fail
        refine (cb _).mono ?_
        rintro e w' ⟨rfl, rfl⟩
        go_wp2_with fail
        refine gen_world (F := fun X => Blk X (w.heap.size + 1) 37 #[.int .i64 0, .int .i64 0, .int .i64 0, .int .i64 0, .int .i64 0] ∧ Below w.heap.size w X) _ ⟨(hR.set5 _ _ _ _ _).alloc _, bl (bset5 hB1 (by omega) _ _ _ _ _) _⟩ ?_
        rintro X ⟨hX, hBX⟩
        obtain ⟨x0, x1, x2, x3, x4⟩ := hX.facts5
        exact bodyPost_ret (v := .tuple #[.agg #[.int .i64 0, .int .i64 0, .int .i64 0, .int .i64 0, .int .i64 0], .bool false]) (by simp [results, Try.results18, go_sem, x0, x1, x2, x3, x4]) rfl ⟨rfl, hBX⟩

set_option maxHeartbeats 8000000 in
theorem at_yes (kd r c s sh n q : Int) (w : World) (hm : mayP ⟨kd, r, c, s, sh⟩ = true) (f1 : 0 ≤ n) (f2 : n ≤ 999999) (f3 : 0 ≤ q) (f4 : q < n) :
    Calls Try.prog 18 #[.agg #[.int .i64 kd, .int .i64 r, .int .i64 c, .int .i64 s, .int .i64 sh], .int .i64 n, .int .i64 q] w fun e w' => e = .returned (.tuple #[vSl (atP ⟨kd, r, c, s, sh⟩ n q), .bool true]) ∧ Below w.heap.size w w' := by
  have co := fun W => of_any kd r c s sh W
  have cg := fun W => at_way kd r c s sh n q W hm f3 (by omega) f1 f2 (by omega)
  rw [hm] at co
  have cf := fun W => few_yes n W f1 f2
  have cb := fun W => between_yes q 0 (n - 1) W f3 (by omega)
  obtain ⟨⟨a0, a1, a2, a3, a4⟩, ha⟩ : ∃ x, atP ⟨kd, r, c, s, sh⟩ n q = x := ⟨_, rfl⟩
  rw [ha] at cg ⊢
  clear ha hm
  have hk : kd = 1 ∨ kd = 2 := by
    rcases cg w with h | h
    · exact .inl h.1
    · exact .inr h.1
  rcases hk with rfl | rfl
  · have cg2 := fun W => (cg W).elim (fun h => h.2) (fun h => absurd h.1 (by omega))
    rw [wayV_grid] at co
    clear f3 f4 cg
    go_enter Try.func18, Try.ntmps18
    go_wp2_with fail
    refine (co _).mono ?_
    rintro e w1 ⟨rfl, hb⟩
    have hB1 : Below w.heap.size w w1 := bt (bl (bl (Below.refl _ _) _) _) hb
    have hR := ((by simpa using Blk.new (w.alloc _) 37 #[.int .i64 0, .int .i64 0, .int .i64 0, .int .i64 0, .int .i64 0] : Blk _ (w.heap.size + 1) 37 _)).keep hb
    have hz : w.heap.size + 1 < w1.heap.size := hR.lt
    obtain ⟨z0, z1, z2, z3, z4⟩ := hR.facts5
    obtain ⟨y0, y1, y2, y3, y4⟩ := hR.free5
    obtain ⟨p0, p1, p2, p3, p4⟩ := (((Blk.new w 23 #[.int .i64 1, .int .i64 r, .int .i64 c, .int .i64 s, .int .i64 sh]).alloc (.cells #[.int .i64 0, .int .i64 0, .int .i64 0, .int .i64 0, .int .i64 0] 37)).keep hb).facts5
    have hz2 : w.heap.size < w1.heap.size := by omega
    go_wp2_with fail
    refine (cf _).mono ?_
    rintro e w' ⟨rfl, rfl⟩
    go_wp2_with fail
    refine (cb _).mono ?_
    rintro e w' ⟨rfl, rfl⟩
    go_wp2_with fail
    refine (cg2 _).mono ?_
    rintro e w2 ⟨rfl, hb2⟩
    have hR2 := (hR.alloc _).keep hb2
    have hB2 := bt (bl hB1 _) hb2
    clear z0 z1 z2 z3 z4 y0 y1 y2 y3 y4
    obtain ⟨z0, z1, z2, z3, z4⟩ := hR2.facts5
    obtain ⟨y0, y1, y2, y3, y4⟩ := hR2.free5
    go_wp2_with fail
    refine gen_world (F := fun X => Blk X (w.heap.size + 1) 37 #[.int .i64 a0, .int .i64 a1, .int .i64 a2, .int .i64 a3, .int .i64 a4] ∧ Below w.heap.size w X) _ ⟨hR2.set5 _ _ _ _ _, bset5 hB2 (by omega) _ _ _ _ _⟩ ?_
    rintro X ⟨hX, hBX⟩
    obtain ⟨x0, x1, x2, x3, x4⟩ := hX.facts5
    exact bodyPost_ret (v := .tuple #[.agg #[.int .i64 a0, .int .i64 a1, .int .i64 a2, .int .i64 a3, .int .i64 a4], .bool true]) (by simp [results, Try.results18, go_sem, x0, x1, x2, x3, x4]) rfl ⟨rfl, hBX⟩
  · have cg2 := fun W => (cg W).elim (fun h => absurd h.1 (by omega)) (fun h => h.2)
    rw [wayV_book] at co
    clear f3 f4 cg
    go_enter Try.func18, Try.ntmps18
    go_wp2_with fail
    refine (co _).mono ?_
    rintro e w1 ⟨rfl, hb⟩
    have hB1 : Below w.heap.size w w1 := bt (bl (bl (Below.refl _ _) _) _) hb
    have hR := ((by simpa using Blk.new (w.alloc _) 37 #[.int .i64 0, .int .i64 0, .int .i64 0, .int .i64 0, .int .i64 0] : Blk _ (w.heap.size + 1) 37 _)).keep hb
    have hz : w.heap.size + 1 < w1.heap.size := hR.lt
    obtain ⟨z0, z1, z2, z3, z4⟩ := hR.facts5
    obtain ⟨y0, y1, y2, y3, y4⟩ := hR.free5
    obtain ⟨p0, p1, p2, p3, p4⟩ := (((Blk.new w 23 #[.int .i64 2, .int .i64 r, .int .i64 c, .int .i64 s, .int .i64 sh]).alloc (.cells #[.int .i64 0, .int .i64 0, .int .i64 0, .int .i64 0, .int .i64 0] 37)).keep hb).facts5
    have hz2 : w.heap.size < w1.heap.size := by omega
    go_wp2_with fail
    refine (cf _).mono ?_
    rintro e w' ⟨rfl, rfl⟩
    go_wp2_with fail
    refine (cb _).mono ?_
    rintro e w' ⟨rfl, rfl⟩
    go_wp2_with fail
    refine (cg2 _).mono ?_
    rintro e w2 ⟨rfl, hb2⟩
    have hR2 := (hR.alloc _).keep hb2
    have hB2 := bt (bl hB1 _) hb2
    clear z0 z1 z2 z3 z4 y0 y1 y2 y3 y4
    obtain ⟨z0, z1, z2, z3, z4⟩ := hR2.facts5
    obtain ⟨y0, y1, y2, y3, y4⟩ := hR2.free5
    go_wp2_with fail
    refine gen_world (F := fun X => Blk X (w.heap.size + 1) 37 #[.int .i64 a0, .int .i64 a1, .int .i64 a2, .int .i64 a3, .int .i64 a4] ∧ Below w.heap.size w X) _ ⟨hR2.set5 _ _ _ _ _, bset5 hB2 (by omega) _ _ _ _ _⟩ ?_
    rintro X ⟨hX, hBX⟩
    obtain ⟨x0, x1, x2, x3, x4⟩ := hX.facts5
    exact bodyPost_ret (v := .tuple #[.agg #[.int .i64 a0, .int .i64 a1, .int .i64 a2, .int .i64 a3, .int .i64 a4], .bool true]) (by simp [results, Try.results18, go_sem, x0, x1, x2, x3, x4]) rfl ⟨rfl, hBX⟩

end Go.Proofs.Ythiplocjiamahaa
