/-
  What the small functions of package sheets return: for every plan; below the heap's size at the call nothing turns.
-/
import Derived.Test.YthiplocjiamahaaGen
import Derived.Test.YthiplocjiamahaaShs
import Derived.Test.YthiplocjiamahaaQtl
import Derived.Laws.EntriesVeiled
namespace Go.Proofs.Ythiplocjiamahaa
open Go.RowKit Go.Proofs.Shs

/-- A plan, a slot as values. -/
abbrev vP (p : Plan) : Value := .agg #[.int .i64 p.kind, .int .i64 p.rows, .int .i64 p.cols, .int .i64 p.sides, .int .i64 p.sheets]
abbrev vSl (s : Slot) : Value := .agg #[.int .i64 s.sheet, .int .i64 s.side, .int .i64 s.row, .int .i64 s.col, .int .i64 s.page]

set_option maxHeartbeats 400000 in
theorem between_yes (n a b : Int) (w : World) (h1 : a ≤ n) (h2 : n ≤ b) : Calls Try.prog 32 #[.int .i64 n, .int .i64 a, .int .i64 b] w fun e w' => e = .returned (.bool true) ∧ w = w' := by
  go_enter Try.func32, Try.ntmps32
  go_wp2
  go_ret
  exact ⟨rfl, rfl⟩
set_option maxHeartbeats 400000 in
theorem between_no (n a b : Int) (w : World) (h : n < a ∨ b < n) : Calls Try.prog 32 #[.int .i64 n, .int .i64 a, .int .i64 b] w fun e w' => e = .returned (.bool false) ∧ w = w' := by
  by_cases h1 : n < a
  · clear h
    go_enter Try.func32, Try.ntmps32
    go_wp2
    go_ret
    exact ⟨rfl, rfl⟩
  · have h2 : ¬ n ≤ b := by omega
    clear h
    go_enter Try.func32, Try.ntmps32
    go_wp2
    go_ret
    exact ⟨rfl, rfl⟩

theorem ret_bool {a b : Bool} (h : a = b) : Ending.returned (.bool a) = .returned (.bool b) := by rw [h]
theorem ret_int {k : IntKind} {a b : Int} (h : a = b) : Ending.returned (.int k a) = .returned (.int k b) := by rw [h]

set_option maxHeartbeats 400000 in
theorem clamp_any (n : Int) (w : World) (h1 : -1099511627776 ≤ n) (h2 : n ≤ 1099511627776) : Calls Try.prog 65 #[.int .i64 n] w fun e w' => e = .returned (.int .i64 n) ∧ w = w' := by
  go_enter Try.func65, Try.ntmps65
  go_wp2
  all_goals go_ret
  all_goals exact ⟨ret_int (by first | rfl | omega | (simp; omega)), rfl⟩

set_option maxHeartbeats 400000 in
theorem uparts_any (a b : Int) (w : World) (ha : 0 ≤ a) (ha2 : a ≤ 1000000000) (hb : 1 ≤ b) (hb2 : b ≤ 1000000) : Calls Try.prog 63 #[.int .i64 a, .int .i64 b] w fun e w' => e = .returned (.tuple #[.int .i64 ((a + b - 1) / b), .bool true]) ∧ w = w' := by
  go_enter Try.func63, Try.ntmps63
  go_wp2_with fail
  refine (clamp_any a _ (by omega) (by omega)).mono ?_
  rintro e w' ⟨rfl, rfl⟩
  go_wp2_with fail
  refine (clamp_any b _ (by omega) (by omega)).mono ?_
  rintro e w' ⟨rfl, rfl⟩
  go_wp2_with fail
  go_ret2
  exact ⟨rfl, rfl⟩

set_option maxHeartbeats 400000 in
theorem parts_any (a b : Int) (w : World) (ha : 0 ≤ a) (ha2 : a ≤ 1000000000) (hb : 1 ≤ b) (hb2 : b ≤ 1000000) : Calls Try.prog 57 #[.int .i64 a, .int .i64 b] w fun e w' => e = .returned (.int .i64 ((a + b - 1) / b)) ∧ w = w' := by
  go_enter Try.func57, Try.ntmps57
  go_wp2_with (go_at_call 63; refine (uparts_any a b _ ha ha2 hb hb2).mono ?_; rintro e w' ⟨rfl, rfl⟩)
  go_ret
  exact ⟨rfl, rfl⟩

set_option maxHeartbeats 400000 in
theorem few_yes (n : Int) (w : World) (h1 : 0 ≤ n) (h2 : n ≤ 999999) : Calls Try.prog 25 #[.int .i64 n] w fun e w' => e = .returned (.bool true) ∧ w = w' := by
  go_enter Try.func25, Try.ntmps25
  go_wp2_with (go_at_call 32; refine (between_yes _ _ _ _ h1 h2).mono ?_; rintro e w' ⟨rfl, rfl⟩)
  go_ret
  exact ⟨rfl, rfl⟩
set_option maxHeartbeats 400000 in
theorem few_no (n : Int) (w : World) (h : n < 0 ∨ 999999 < n) : Calls Try.prog 25 #[.int .i64 n] w fun e w' => e = .returned (.bool false) ∧ w = w' := by
  go_enter Try.func25, Try.ntmps25
  go_wp2_with (go_at_call 32; refine (between_no _ _ _ _ h).mono ?_; rintro e w' ⟨rfl, rfl⟩)
  go_ret
  exact ⟨rfl, rfl⟩

/-! ### The grid -/
set_option maxHeartbeats 400000 in
theorem mayGrid_yes (p : Plan) (w : World) (h1 : 1 ≤ p.rows) (h2 : p.rows ≤ 16) (h3 : 1 ≤ p.cols) (h4 : p.cols ≤ 16) (h5 : 1 ≤ p.sides) (h6 : p.sides ≤ 2) (h7 : (p.sheets == 0) = true) :
    Calls Try.prog 40 #[vP p] w fun e w' => e = .returned (.bool true) ∧ Below w.heap.size w w' := by
  go_enter Try.func40, Try.ntmps40
  go_wp2_with (go_at_call 32; refine (between_yes _ _ _ _ ?_ ?_).mono ?_ <;> first | assumption | rintro e w' ⟨rfl, rfl⟩)
  go_ret
  exact ⟨rfl, bl (Below.refl _ _) _⟩
set_option maxHeartbeats 400000 in
theorem mayGrid_no (p : Plan) (w : World) (h : ¬ (1 ≤ p.rows ∧ p.rows ≤ 16 ∧ 1 ≤ p.cols ∧ p.cols ≤ 16 ∧ 1 ≤ p.sides ∧ p.sides ≤ 2 ∧ p.sheets = 0)) :
    Calls Try.prog 40 #[vP p] w fun e w' => e = .returned (.bool false) ∧ Below w.heap.size w w' := by
  obtain ⟨kd, r, c, s, sh⟩ := p
  simp only at h
  by_cases h1 : r < 1 ∨ 16 < r
  · have b1 := fun W => between_no r 1 16 W h1
    clear h h1
    go_enter Try.func40, Try.ntmps40
    go_wp2_with fail
    refine (b1 _).mono ?_
    rintro e w' ⟨rfl, rfl⟩
    go_wp2_with fail
    go_ret
    exact ⟨rfl, bl (Below.refl _ _) _⟩
  · have b1 := fun W => between_yes r 1 16 W (by omega) (by omega)
    by_cases h2 : c < 1 ∨ 16 < c
    · have b2 := fun W => between_no c 1 16 W h2
      clear h h1 h2
      go_enter Try.func40, Try.ntmps40
      go_wp2_with fail
      refine (b1 _).mono ?_
      rintro e w' ⟨rfl, rfl⟩
      go_wp2_with fail
      refine (b2 _).mono ?_
      rintro e w' ⟨rfl, rfl⟩
      go_wp2_with fail
      go_ret
      exact ⟨rfl, bl (Below.refl _ _) _⟩
    · have b2 := fun W => between_yes c 1 16 W (by omega) (by omega)
      by_cases h3 : s < 1 ∨ 2 < s
      · have b3 := fun W => between_no s 1 2 W h3
        clear h h1 h2 h3
        go_enter Try.func40, Try.ntmps40
        go_wp2_with fail
        refine (b1 _).mono ?_
        rintro e w' ⟨rfl, rfl⟩
        go_wp2_with fail
        refine (b2 _).mono ?_
        rintro e w' ⟨rfl, rfl⟩
        go_wp2_with fail
        refine (b3 _).mono ?_
        rintro e w' ⟨rfl, rfl⟩
        go_wp2_with fail
        go_ret
        exact ⟨rfl, bl (Below.refl _ _) _⟩
      · have b3 := fun W => between_yes s 1 2 W (by omega) (by omega)
        have h4 : (sh == 0) = false := by simp; omega
        clear h h1 h2 h3
        go_enter Try.func40, Try.ntmps40
        go_wp2_with fail
        refine (b1 _).mono ?_
        rintro e w' ⟨rfl, rfl⟩
        go_wp2_with fail
        refine (b2 _).mono ?_
        rintro e w' ⟨rfl, rfl⟩
        go_wp2_with fail
        refine (b3 _).mono ?_
        rintro e w' ⟨rfl, rfl⟩
        go_wp2_with fail
        go_ret
        exact ⟨rfl, bl (Below.refl _ _) _⟩

theorem prod_bd (r c s : Int) (h1 : 1 ≤ r) (h2 : r ≤ 16) (h3 : 1 ≤ c) (h4 : c ≤ 16) (h5 : 1 ≤ s) (h6 : s ≤ 2) : 1 ≤ r * c ∧ r * c ≤ 256 ∧ 1 ≤ r * c * s ∧ r * c * s ≤ 512 := by
  have a1 : 1 * 1 ≤ r * c := Int.mul_le_mul h1 h3 (by omega) (by omega)
  have a2 : r * c ≤ 16 * 16 := Int.mul_le_mul h2 h4 (by omega) (by omega)
  have a3 : 1 * 1 ≤ r * c * s := Int.mul_le_mul (by omega) h5 (by omega) (by omega)
  have a4 : r * c * s ≤ 256 * 2 := Int.mul_le_mul (by omega) h6 (by omega) (by omega)
  omega

set_option maxHeartbeats 400000 in
theorem countGrid_any (kd r c s sh n : Int) (w : World) (h1 : 1 ≤ r) (h2 : r ≤ 16) (h3 : 1 ≤ c) (h4 : c ≤ 16) (h5 : 1 ≤ s) (h6 : s ≤ 2) (h7 : 0 ≤ n) (h8 : n ≤ 999999) :
    Calls Try.prog 41 #[.agg #[.int .i64 kd, .int .i64 r, .int .i64 c, .int .i64 s, .int .i64 sh], .int .i64 n] w fun e w' => e = .returned (.int .i64 ((n + r * c * s - 1) / (r * c * s))) ∧ Below w.heap.size w w' := by
  obtain ⟨p1, p2, p3, p4⟩ := prod_bd r c s h1 h2 h3 h4 h5 h6
  have b1 := fun W => parts_any n (r * c * s) W h7 (by omega) p3 (by omega)
  go_enter Try.func41, Try.ntmps41
  go_wp2_with fail
  refine (b1 _).mono ?_
  rintro e w' ⟨rfl, rfl⟩
  go_wp2_with fail
  go_ret
  exact ⟨rfl, bl (Below.refl _ _) _⟩

set_option maxHeartbeats 1000000 in
theorem atGrid_any (kd r c s sh n q : Int) (w : World) (h1 : 1 ≤ r) (h2 : r ≤ 16) (h3 : 1 ≤ c) (h4 : c ≤ 16) (h5 : 1 ≤ s) (h6 : s ≤ 2) (h7 : 0 ≤ q) (h8 : q ≤ 1000000000) :
    Calls Try.prog 42 #[.agg #[.int .i64 kd, .int .i64 r, .int .i64 c, .int .i64 s, .int .i64 sh], .int .i64 n, .int .i64 q] w fun e w' => e = .returned (.agg #[.int .i64 (q / (r * c * s) + 1), .int .i64 (q / (r * c) % s + 1), .int .i64 (q / c % r), .int .i64 (q % c), .int .i64 q]) ∧ Below w.heap.size w w' := by
  obtain ⟨p1, p2, p3, p4⟩ := prod_bd r c s h1 h2 h3 h4 h5 h6
  have d1 : 0 ≤ q / (r * c * s) := Int.ediv_nonneg h7 (by omega)
  have d2 : q / (r * c * s) ≤ q := Int.ediv_le_self _ h7
  have d3 : 0 ≤ q / (r * c) := Int.ediv_nonneg h7 (by omega)
  have d4 : 0 ≤ q / c := Int.ediv_nonneg h7 (by omega)
  have d5 : 0 ≤ q / (r * c) % s := Int.emod_nonneg _ (by omega)
  have d6 : q / (r * c) % s < s := Int.emod_lt_of_pos _ (by omega)
  go_enter Try.func42, Try.ntmps42
  go_wp2_with fail
  refine gen_world (F := fun W => Blk W w.heap.size 23 #[.int .i64 kd, .int .i64 r, .int .i64 c, .int .i64 s, .int .i64 sh] ∧ Blk W (w.heap.size + 1) 37 #[.int .i64 0, .int .i64 0, .int .i64 0, .int .i64 0, .int .i64 0] ∧ Below w.heap.size w W) _ ⟨(Blk.new w _ _).alloc _, by simpa using Blk.new (w.alloc _) _ _, bl (bl (Below.refl _ _) _) _⟩ ?_
  rintro W ⟨hP, hR, hB⟩
  have g1 := fun p : From W => (hP.keep p.below).cell 1
  have g2 := fun p : From W => (hP.keep p.below).cell 2
  have g3 := fun p : From W => (hP.keep p.below).cell 3
  refine wp_region_from_tail 27 (by kernel_rfl) (by kernel_rfl) ?_
  simp only [List.take_succ_cons, List.take_zero, List.drop_succ_cons, List.drop_zero]
  repeat (go_big_quiet_step (fail))
  refine wpQuiet_nil ?_
  intro _ hw'
  obtain ⟨p, rfl⟩ := hw'
  have hB2 := bt hB p.below
  have hR2 := hR.keep p.below
  generalize p.W = W2 at hB2 hR2 ⊢
  clear g1 g2 g3 hP hR hB p
  obtain ⟨z0, z1, z2, z3, z4⟩ := hR2.facts5
  obtain ⟨y0, y1, y2, y3, y4⟩ := hR2.free5
  go_wp2_with fail
  refine gen_world (F := fun W => Blk W (w.heap.size + 1) 37 #[.int .i64 (q / (r * c * s) + 1), .int .i64 (q / (r * c) % s + 1), .int .i64 (q / c % r), .int .i64 (q % c), .int .i64 q] ∧ Below w.heap.size w W) _ ⟨hR2.set5 _ _ _ _ _, bset5 hB2 (by omega) _ _ _ _ _⟩ ?_
  rintro W3 ⟨hR3, hB3⟩
  obtain ⟨z0, z1, z2, z3, z4⟩ := hR3.facts5
  exact bodyPost_ret (v := .agg #[.int .i64 (q / (r * c * s) + 1), .int .i64 (q / (r * c) % s + 1), .int .i64 (q / c % r), .int .i64 (q % c), .int .i64 q]) (by simp [results, Try.results42, go_sem, z0, z1, z2, z3, z4]) rfl ⟨rfl, hB3⟩

/-! ### Books -/
set_option maxHeartbeats 1000000 in
theorem mayBook_far (kd r c s sh : Int) (w : World) (h : sh < 1 ∨ 64 < sh) :
    Calls Try.prog 43 #[.agg #[.int .i64 kd, .int .i64 r, .int .i64 c, .int .i64 s, .int .i64 sh]] w fun e w' => e = .returned (.bool false) ∧ Below w.heap.size w w' := by
  have b1 := fun W => between_no sh 1 64 W h
  clear h
  go_enter Try.func43, Try.ntmps43
  go_wp2_with fail
  refine (b1 _).mono ?_
  rintro e w' ⟨rfl, rfl⟩
  go_wp2_with fail
  go_ret
  exact ⟨rfl, bl (Below.refl _ _) _⟩
set_option maxHeartbeats 1000000 in
theorem mayBook_near (kd r c s sh : Int) (w : World) (h1 : 1 ≤ sh) (h2 : sh ≤ 64) :
    Calls Try.prog 43 #[.agg #[.int .i64 kd, .int .i64 r, .int .i64 c, .int .i64 s, .int .i64 sh]] w fun e w' => e = .returned (.bool (decide (kd = 2 ∧ r = 1 ∧ c = 2 ∧ s = 2))) ∧ Below w.heap.size w w' := by
  have b1 := fun W => between_yes sh 1 64 W h1 h2
  clear h1 h2
  go_enter Try.func43, Try.ntmps43
  go_wp2_with fail
  refine (b1 _).mono ?_
  rintro e w' ⟨rfl, rfl⟩
  go_wp2_with fail
  all_goals go_ret
  all_goals exact ⟨ret_bool (by simp [*]), bl (Below.refl _ _) _⟩

set_option maxHeartbeats 400000 in
theorem countBook_any (kd r c s sh n : Int) (w : World) (h7 : 0 ≤ n) (h8 : n ≤ 999999) :
    Calls Try.prog 44 #[.agg #[.int .i64 kd, .int .i64 r, .int .i64 c, .int .i64 s, .int .i64 sh], .int .i64 n] w fun e w' => e = .returned (.int .i64 ((n + 4 - 1) / 4)) ∧ Below w.heap.size w w' := by
  have b1 := fun W => parts_any n 4 W h7 (by omega) (by omega) (by omega)
  go_enter Try.func44, Try.ntmps44
  go_wp2_with fail
  refine (b1 _).mono ?_
  rintro e w' ⟨rfl, rfl⟩
  go_wp2_with fail
  go_ret
  exact ⟨rfl, bl (Below.refl _ _) _⟩

set_option maxHeartbeats 1000000 in
theorem ways_any (w : World) : Calls Try.prog 33 #[] w fun e w' => e = .returned (.agg #[.nilFunc, .nilFunc, .nilFunc, .func (.func 40) #[] #[], .func (.func 41) #[] #[], .func (.func 42) #[] #[], .func (.func 43) #[] #[], .func (.func 44) #[] #[], .func (.func 45) #[] #[]]) ∧ Below w.heap.size w w' := by
  go_enter Try.func33, Try.ntmps33
  go_wp2_with fail
  refine bodyPost_ret (v := .agg #[.nilFunc, .nilFunc, .nilFunc, .func (.func 40) #[] #[], .func (.func 41) #[] #[], .func (.func 42) #[] #[], .func (.func 43) #[] #[], .func (.func 44) #[] #[], .func (.func 45) #[] #[]]) ?_ rfl ⟨rfl, bl (Below.refl _ _) _⟩
  simp [results, Try.results33, go_sem]

end Go.Proofs.Ythiplocjiamahaa
