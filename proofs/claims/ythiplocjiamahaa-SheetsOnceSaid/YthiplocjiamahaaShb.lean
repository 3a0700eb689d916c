/-
  sheets.atBook, of, May, Count, At: what they return for every plan; below the heap's size at the call nothing turns.
-/
import Derived.Test.YthiplocjiamahaaSha
namespace Go.Proofs.Ythiplocjiamahaa
open Go.RowKit Go.Proofs.Shs

set_option maxHeartbeats 2000000 in
theorem atBook_any (kd r c s sh n q : Int) (w : World) (h1 : 1 ≤ sh) (h2 : sh ≤ 64) (h3 : 0 ≤ q) (h4 : q ≤ 1000000000) (h5 : 0 ≤ n) (h6 : n ≤ 999999)
    (h7 : 0 ≤ n - (q - q % (4 * sh))) (h8 : q - (q - q % (4 * sh)) ≤ 4 * (if (n - (q - q % (4 * sh)) + 4 - 1) / 4 < sh then (n - (q - q % (4 * sh)) + 4 - 1) / 4 else sh) - 1) :
    Calls Try.prog 45 #[.agg #[.int .i64 kd, .int .i64 r, .int .i64 c, .int .i64 s, .int .i64 sh], .int .i64 n, .int .i64 q] w fun e w' => e = .returned (vSl (bkAt sh n q)) ∧ Below w.heap.size w w' := by
  have m1 : 0 ≤ q % (4 * sh) := Int.emod_nonneg _ (by omega)
  have m2 : q % (4 * sh) < 4 * sh := Int.emod_lt_of_pos _ (by omega)
  have m3 : q % (4 * sh) ≤ q := by have := Int.ediv_nonneg h3 (show 0 ≤ 4 * sh by omega); have := Int.mul_ediv_add_emod q (4 * sh); have := Int.mul_nonneg (show 0 ≤ 4 * sh by omega) ‹0 ≤ q / (4 * sh)›; omega
  have b1 := fun W => parts_any (n - (q - q % (4 * sh))) 4 W h7 (by omega) (by omega) (by omega)
  obtain ⟨k, hk⟩ : ∃ k, (if (n - (q - q % (4 * sh)) + 4 - 1) / 4 < sh then (n - (q - q % (4 * sh)) + 4 - 1) / 4 else sh) = k := ⟨_, rfl⟩
  have hk1 : 0 ≤ k := by rw [← hk]; split <;> omega
  have hk2 : k ≤ 64 := by rw [← hk]; split <;> omega
  rw [hk] at h8
  have HK := Lib.hid hk
  clear hk
  go_enter Try.func45, Try.ntmps45
  go_wp2_with fail
  refine gen_world (F := fun W => Blk W w.heap.size 23 #[.int .i64 kd, .int .i64 r, .int .i64 c, .int .i64 s, .int .i64 sh] ∧ Blk W (w.heap.size + 1) 37 #[.int .i64 0, .int .i64 0, .int .i64 0, .int .i64 0, .int .i64 0] ∧ Below w.heap.size w W) _ ⟨(Blk.new w _ _).alloc _, by simpa using Blk.new (w.alloc _) _ _, bl (bl (Below.refl _ _) _) _⟩ ?_
  rintro W ⟨hP, hR, hB⟩
  have g1 := fun p : From W => (hP.keep p.below).cell 4
  refine wp_region_from (by kernel_rfl) (by kernel_rfl) ?_
  repeat (go_big_quiet_step (first | (go_at_call 57; exact calls_from ((b1 _).mono fun e w' h => ⟨h.1, by rw [← h.2]; exact Below.refl _ _⟩))))
  refine wpQuiet_nil ?_
  intro _ hw'
  obtain ⟨p, rfl⟩ := hw'
  have hB2 := bt hB p.below
  have hR2 := hR.keep p.below
  generalize p.W = W2 at hB2 hR2 ⊢
  clear g1 hP hR hB p
  rw [HK.out]
  obtain ⟨z0, z1, z2, z3, z4⟩ := hR2.facts5
  obtain ⟨y0, y1, y2, y3, y4⟩ := hR2.free5
  clear h7 b1
  by_cases hl : 4 * k - 1 - (q - (q - q % (4 * sh))) < q - (q - q % (4 * sh))
  · have E : Hid (bkAt sh n q = ⟨(q - q % (4 * sh)) / 4 + (4 * k - 1 - (q - (q - q % (4 * sh)))) / 2 + 1, (4 * k - 1 - (q - (q - q % (4 * sh)))) % 2 + 1, 0, (4 * k - 1 - (q - (q - q % (4 * sh)))) % 2, q⟩) := by show _ = _; unfold bkAt; simp only; rw [HK.out, if_pos hl]
    go_wp2_with fail
    refine gen_world (F := fun W => Blk W (w.heap.size + 1) 37 #[.int .i64 ((q - q % (4 * sh)) / 4 + (4 * k - 1 - (q - (q - q % (4 * sh)))) / 2 + 1), .int .i64 ((4 * k - 1 - (q - (q - q % (4 * sh)))) % 2 + 1), .int .i64 0, .int .i64 ((4 * k - 1 - (q - (q - q % (4 * sh)))) % 2), .int .i64 q] ∧ Below w.heap.size w W) _ ⟨hR2.set5 _ _ _ _ _, bset5 hB2 (by omega) _ _ _ _ _⟩ ?_
    rintro W3 ⟨hR3, hB3⟩
    obtain ⟨z0, z1, z2, z3, z4⟩ := hR3.facts5
    exact bodyPost_ret (v := .agg #[.int .i64 ((q - q % (4 * sh)) / 4 + (4 * k - 1 - (q - (q - q % (4 * sh)))) / 2 + 1), .int .i64 ((4 * k - 1 - (q - (q - q % (4 * sh)))) % 2 + 1), .int .i64 0, .int .i64 ((4 * k - 1 - (q - (q - q % (4 * sh)))) % 2), .int .i64 q]) (by simp [results, Try.results45, go_sem, z0, z1, z2, z3, z4]) rfl ⟨by rw [E.out], hB3⟩
  · have E : Hid (bkAt sh n q = ⟨(q - q % (4 * sh)) / 4 + (q - (q - q % (4 * sh))) / 2 + 1, (q - (q - q % (4 * sh))) % 2 + 1, 0, 1 - (q - (q - q % (4 * sh))) % 2, q⟩) := by show _ = _; unfold bkAt; simp only; rw [HK.out, if_neg hl]
    go_wp2_with fail
    refine gen_world (F := fun W => Blk W (w.heap.size + 1) 37 #[.int .i64 ((q - q % (4 * sh)) / 4 + (q - (q - q % (4 * sh))) / 2 + 1), .int .i64 ((q - (q - q % (4 * sh))) % 2 + 1), .int .i64 0, .int .i64 (1 - (q - (q - q % (4 * sh))) % 2), .int .i64 q] ∧ Below w.heap.size w W) _ ⟨hR2.set5 _ _ _ _ _, bset5 hB2 (by omega) _ _ _ _ _⟩ ?_
    rintro W3 ⟨hR3, hB3⟩
    obtain ⟨z0, z1, z2, z3, z4⟩ := hR3.facts5
    exact bodyPost_ret (v := .agg #[.int .i64 ((q - q % (4 * sh)) / 4 + (q - (q - q % (4 * sh))) / 2 + 1), .int .i64 ((q - (q - q % (4 * sh))) % 2 + 1), .int .i64 0, .int .i64 (1 - (q - (q - q % (4 * sh))) % 2), .int .i64 q]) (by simp [results, Try.results45, go_sem, z0, z1, z2, z3, z4]) rfl ⟨by rw [E.out], hB3⟩
end Go.Proofs.Ythiplocjiamahaa
