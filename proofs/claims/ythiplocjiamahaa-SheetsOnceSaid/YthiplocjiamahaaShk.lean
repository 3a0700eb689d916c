/-
  gatefoldref33.books returns all slots of books; below the heap's size at the call nothing turns.
-/
import Derived.Test.YthiplocjiamahaaShr
import Derived.Test.YthiplocjiamahaaShu
namespace Go.Proofs.Ythiplocjiamahaa
open Go.RowKit Go.Proofs.Shs

set_option maxRecDepth 100000 in
set_option maxHeartbeats 8000000 in
theorem rbooks_any (s N : Nat) (w : World) (h1 : 1 ≤ s) (h2 : s ≤ 64) (hN : N ≤ 999999) :
    Calls Try.prog 29 #[.agg #[.int .i64 2, .int .i64 1, .int .i64 2, .int .i64 2, .int .i64 s], .int .i64 N] w fun e w' =>
      ∃ v', e = .returned v' ∧ w'.ownsRow w.heap.size 37 5 v' (blL s ((N + 3) / 4) N (4 * ((N + 3) / 4))).length (flatL encSl (blL s ((N + 3) / 4) N (4 * ((N + 3) / 4)))) ∧ Below w.heap.size w w' := by
  obtain ⟨i0, hi, hz0, hz1, hz2⟩ := info_parts Try.infoSlot
  obtain ⟨c, hc⟩ : ∃ c, (N + 3) / 4 = c := ⟨_, rfl⟩
  have hc1 : N ≤ 4 * c := by omega
  have hc2 : 4 * c ≤ N + 3 := by omega
  rw [hc]
  clear hc
  go_enter Try.func29, Try.ntmps29
  go_wp2_with fail
  refine gen_world (F := fun W => Blk W w.heap.size 23 #[.int .i64 2, .int .i64 1, .int .i64 2, .int .i64 2, .int .i64 s] ∧ Below w.heap.size w W) _ ⟨Blk.new w _ _, bl (Below.refl _ _) _⟩ ?_
  rintro w0 ⟨hP0, hB0⟩
  have HP := Lib.hid hP0
  have HB := Lib.hid hB0
  have hz0' : w.heap.size < w0.heap.size := hP0.lt
  clear hP0 hB0
  go_loopw [5, 6, 7] (fun v i6 i7 wr => ∃ (t f m u : Nat), i6 = .int .i64 t ∧ i7 = .int .i64 f ∧ t = u + 1 ∧ u ≤ c ∧ f ≤ 1000300 ∧ w0.heap.size ≤ wr.heap.size ∧ Hid (wr.ownsRow w0.heap.size 37 5 v (4 * u) (flatL encSl (blL s c N (4 * u)))) ∧ Hid (Below w0.heap.size w0 wr) ∧ Hid (f = m * (4 * s)) ∧ Hid (u = min (m * s) c))
    (fun _ _ i7 _ => N - (intOf i7).toNat)
  case atStart => exact ⟨1, 0, 0, 0, rfl, rfl, rfl, by omega, by omega, Nat.le_refl _, World.ownsRow_nil _ _ _ _, Below.refl _ _, by show 0 = _; simp, by show 0 = _; simp⟩
  case round =>
    obtain ⟨t, f, m, u, rfl, rfl, ht, huc, hfb, hsz, hown, hnx, HF, HU⟩ := hrel
    have HT := Lib.hid ht
    clear ht
    by_cases hlt : f < N
    · have hlt' : (f : Int) < (N : Int) := by omega
      have hms : 4 * (m * s) = f := by rw [HF.out, Nat.mul_left_comm]
      have hum : u = m * s := by rw [HU.out]; omega
      have hmc : m * s < c := by omega
      have HUM := Lib.hid hum
      have HMS := Lib.hid hms
      have hmcu : u < c := by omega
      have hfu : f ≤ 4 * u ∧ 4 * u ≤ f := by omega
      clear hum hms hmc
      go_wp2_with fail
      -- how many sheets the book has
      go_loopw [8] (fun i8 wr' => ∃ k : Nat, i8 = .int .i64 k ∧ k ≤ s ∧ k ≤ c - u ∧ wr = wr')
        (fun i8 _ => s - (intOf i8).toNat)
      case atStart => exact ⟨0, rfl, by omega, by omega, rfl⟩
      case round =>
        obtain ⟨k, rfl, hk1, hk2, rfl⟩ := hrel
        obtain ⟨p0, p1, p2, p3, p4⟩ := (HP.out.keep hnx.out).facts5
        by_cases hks : k < s
        · have hks' : (k : Int) < (s : Int) := by omega
          by_cases hkn : f + 4 * k < N
          · have hkn' : (f : Int) + 4 * (k : Int) < (N : Int) := by omega
            go_wp2_with fail
            go_roundw
            case rel => exact ⟨k + 1, by go_num, by omega, by omega, by first | rfl | trivial⟩
            case measure => simp [intOf]; omega
          · have hkn' : ¬ (f : Int) + 4 * (k : Int) < (N : Int) := by omega
            have HK : Hid (k = min s (c - m * s)) := by show _ = _; rw [← HUM.out]; omega
            have hkb : k ≤ 64 := by omega
            go_wp2_with fail
            clear p0 p1 p2 p3 p4
            obtain ⟨w1, rfl⟩ : ∃ w1 : World, w1 = wr := ⟨_, rfl⟩
            go_loopw [5, 6, 9] (fun v i6 i9 wr => ∃ (t i : Nat), i6 = .int .i64 t ∧ i9 = .int .i64 i ∧ i ≤ k ∧ t ≤ u + i + 1 ∧ w0.heap.size ≤ wr.heap.size ∧ Hid (wr.ownsRow w0.heap.size 37 5 v (4 * (u + i)) (flatL encSl (blL s c N (4 * (u + i))))) ∧ Hid (Below w0.heap.size w0 wr) ∧ Hid (t = u + i + 1))
              (fun _ _ i9 _ => k - (intOf i9).toNat)
            case atStart => exact ⟨t, 0, rfl, rfl, by omega, by have := HT.out; omega, hsz, hown.out, hnx.out, HT.out⟩
            case round =>
              obtain ⟨t, i, rfl, rfl, hik, htb, hsz3, hown, hnx, HTI⟩ := hrel
              by_cases hlt3 : i < k
              · have hlt3' : (i : Int) < (k : Int) := by omega
                have hbf := book_four s c N m i k f (4 * (u + i)) hlt3 HK.out HF.out (by rw [HUM.out])
                rw [show m * s + i + 1 = t by rw [← HUM.out, HTI.out]] at hbf
                have E := Lib.hid hbf
                have PR1 := Lib.hid (blL_two s c N (4 * (u + i)))
                have PR2 := Lib.hid (blL_two s c N (4 * (u + i) + 2))
                clear hbf
                have O5 := Lib.hid (hown.out.alloc (.cells #[.int .i64 t, .int .i64 1, .int .i64 0, .int .i64 0, .int .i64 (pg N ((f : Int) + 4 * (k : Int) - 1 - 2 * (i : Int))), .int .i64 t, .int .i64 1, .int .i64 0, .int .i64 1, .int .i64 (pg N ((f : Int) + 2 * (i : Int)))] 37))
                go_wp2_with fail
                refine (page_any _ _ _).mono ?_
                rintro e' w' ⟨rfl, rfl⟩
                go_wp2_with fail
                refine (page_any _ _ _).mono ?_
                rintro e' w' ⟨rfl, rfl⟩
                go_wp2_with (at_builtin; refine wpList_append_own _ rfl _ _ 28 rfl w0.heap.size 37 i0 (.agg #[.int .i64 0, .int .i64 0, .int .i64 0, .int .i64 0, .int .i64 0]) 5 40 Try.underlying28 hi hz0 hz1 hz2 rfl (by decide) _ _ _ rfl O5.out ⟨wr.heap.size, 0, none⟩ 2 2 [.int .i64 t, .int .i64 1, .int .i64 0, .int .i64 0, .int .i64 (pg N ((f : Int) + 4 * (k : Int) - 1 - 2 * (i : Int))), .int .i64 t, .int .i64 1, .int .i64 0, .int .i64 1, .int .i64 (pg N ((f : Int) + 2 * (i : Int)))] rfl ?c0 ?c1 ?c2 ?c3 ?c4 ?c5 ?_)
                case c0 => rfl
                case c1 => exact cells_new _ _ _
                case c2 => intro u hu; simp at hu; rcases hu with rfl | rfl | rfl | rfl | rfl | rfl | rfl | rfl | rfl | rfl <;> rfl
                case c3 => unfold maxLen; omega
                case c4 => omega
                case c5 => simp; omega
                intro v5 w5 hown5 hgrow5 _
                have O6 : Hid (w5.ownsRow w0.heap.size 37 5 v5 (4 * (u + i) + 2) (flatL encSl (blL s c N (4 * (u + i) + 2)))) := by
                  show World.ownsRow _ _ _ _ _ _ _
                  rw [PR1.out, E.out.1, E.out.2.1, flatL_append]; exact hown5
                have B6 : Hid (Below w0.heap.size w0 w5) := ((hnx.out.alloc hsz3 _).grown hgrow5 (by simp; omega) (fun j hj => (hown.out.lt j hj).1))
                have hsz5 : w0.heap.size ≤ w5.heap.size := B6.out.size
                clear hown5 hgrow5 O5
                have O5 := Lib.hid (O6.out.alloc (.cells #[.int .i64 t, .int .i64 2, .int .i64 0, .int .i64 0, .int .i64 (pg N ((f : Int) + 2 * (i : Int) + 1)), .int .i64 t, .int .i64 2, .int .i64 0, .int .i64 1, .int .i64 (pg N ((f : Int) + 4 * (k : Int) - 2 - 2 * (i : Int)))] 37))
                go_wp2_with fail
                refine (page_any _ _ _).mono ?_
                rintro e' w' ⟨rfl, rfl⟩
                go_wp2_with fail
                refine (page_any _ _ _).mono ?_
                rintro e' w' ⟨rfl, rfl⟩
                go_wp2_with (at_builtin; refine wpList_append_own _ rfl _ _ 28 rfl w0.heap.size 37 i0 (.agg #[.int .i64 0, .int .i64 0, .int .i64 0, .int .i64 0, .int .i64 0]) 5 40 Try.underlying28 hi hz0 hz1 hz2 rfl (by decide) _ _ _ rfl O5.out ⟨w5.heap.size, 0, none⟩ 2 2 [.int .i64 t, .int .i64 2, .int .i64 0, .int .i64 0, .int .i64 (pg N ((f : Int) + 2 * (i : Int) + 1)), .int .i64 t, .int .i64 2, .int .i64 0, .int .i64 1, .int .i64 (pg N ((f : Int) + 4 * (k : Int) - 2 - 2 * (i : Int)))] rfl ?d0 ?d1 ?d2 ?d3 ?d4 ?d5 ?_)
                case d0 => rfl
                case d1 => exact cells_new _ _ _
                case d2 => intro u hu; simp at hu; rcases hu with rfl | rfl | rfl | rfl | rfl | rfl | rfl | rfl | rfl | rfl <;> rfl
                case d3 => unfold maxLen; omega
                case d4 => omega
                case d5 => simp; omega
                intro v6 w6 hown6 hgrow6 _
                have O7 : Hid (w6.ownsRow w0.heap.size 37 5 v6 (4 * (u + (i + 1))) (flatL encSl (blL s c N (4 * (u + (i + 1)))))) := by
                  show World.ownsRow _ _ _ _ _ _ _
                  rw [show 4 * (u + (i + 1)) = 4 * (u + i) + 2 + 2 by omega, PR2.out, E.out.2.2.1, E.out.2.2.2, flatL_append]; exact hown6
                have B7 : Hid (Below w0.heap.size w0 w6) := ((B6.out.alloc hsz5 _).grown hgrow6 (by simp; omega) (fun j hj => (O6.out.lt j hj).1))
                have HT2 : Hid (t + 1 = u + (i + 1) + 1) := by show _ = _; have := HTI.out; omega
                clear hown6 hgrow6 O5 E PR1 PR2
                go_wp2_with fail
                go_roundw
                case rel => exact ⟨t + 1, i + 1, by go_num, by go_num, by omega, by omega, B7.out.size, O7.out, B7.out, HT2.out⟩
                case measure => simp [intOf]; omega
              · have hlt3' : ¬ (i : Int) < (k : Int) := by omega
                obtain ⟨p0, p1, p2, p3, p4⟩ := (HP.out.keep hnx.out).facts5
                have HU2 : Hid (u + i = min ((m + 1) * s) c) := by
                  show _ = _
                  have := next_min s c m (by have := HUM.out; omega)
                  have := HK.out
                  have := HUM.out
                  omega
                have HF2 : Hid (f + 4 * s = (m + 1) * (4 * s)) := by show _ = _; rw [show (m + 1) * (4 * s) = m * (4 * s) + 4 * s from Nat.succ_mul m (4 * s), ← HF.out]
                have HT2 : t = u + i + 1 := HTI.out
                have HT3 := Lib.hid HT2
                have huic : u + i ≤ c := by omega
                have HFB := Lib.hid (show f + 4 * s ≤ 1000300 by omega)
                clear HT2
                go_wp2_with fail
                go_roundw
                case rel => exact ⟨t, f + 4 * s, m + 1, u + i, rfl, by go_num, HT3.out, huic, HFB.out, hsz3, hown.out, hnx.out, HF2.out, HU2.out⟩
                case measure => (simp only [intOf]; omega)
        · have hks' : ¬ (k : Int) < (s : Int) := by omega
          have HK : Hid (k = min s (c - m * s)) := by show _ = _; rw [← HUM.out]; omega
          have hkb : k ≤ 64 := by omega
          go_wp2_with fail
          clear p0 p1 p2 p3 p4
          obtain ⟨w1, rfl⟩ : ∃ w1 : World, w1 = wr := ⟨_, rfl⟩
          go_loopw [5, 6, 9] (fun v i6 i9 wr => ∃ (t i : Nat), i6 = .int .i64 t ∧ i9 = .int .i64 i ∧ i ≤ k ∧ t ≤ u + i + 1 ∧ w0.heap.size ≤ wr.heap.size ∧ Hid (wr.ownsRow w0.heap.size 37 5 v (4 * (u + i)) (flatL encSl (blL s c N (4 * (u + i))))) ∧ Hid (Below w0.heap.size w0 wr) ∧ Hid (t = u + i + 1))
            (fun _ _ i9 _ => k - (intOf i9).toNat)
          case atStart => exact ⟨t, 0, rfl, rfl, by omega, by have := HT.out; omega, hsz, hown.out, hnx.out, HT.out⟩
          case round =>
            obtain ⟨t, i, rfl, rfl, hik, htb, hsz3, hown, hnx, HTI⟩ := hrel
            by_cases hlt3 : i < k
            · have hlt3' : (i : Int) < (k : Int) := by omega
              have hbf := book_four s c N m i k f (4 * (u + i)) hlt3 HK.out HF.out (by rw [HUM.out])
              rw [show m * s + i + 1 = t by rw [← HUM.out, HTI.out]] at hbf
              have E := Lib.hid hbf
              have PR1 := Lib.hid (blL_two s c N (4 * (u + i)))
              have PR2 := Lib.hid (blL_two s c N (4 * (u + i) + 2))
              clear hbf
              have O5 := Lib.hid (hown.out.alloc (.cells #[.int .i64 t, .int .i64 1, .int .i64 0, .int .i64 0, .int .i64 (pg N ((f : Int) + 4 * (k : Int) - 1 - 2 * (i : Int))), .int .i64 t, .int .i64 1, .int .i64 0, .int .i64 1, .int .i64 (pg N ((f : Int) + 2 * (i : Int)))] 37))
              go_wp2_with fail
              refine (page_any _ _ _).mono ?_
              rintro e' w' ⟨rfl, rfl⟩
              go_wp2_with fail
              refine (page_any _ _ _).mono ?_
              rintro e' w' ⟨rfl, rfl⟩
              go_wp2_with (at_builtin; refine wpList_append_own _ rfl _ _ 28 rfl w0.heap.size 37 i0 (.agg #[.int .i64 0, .int .i64 0, .int .i64 0, .int .i64 0, .int .i64 0]) 5 40 Try.underlying28 hi hz0 hz1 hz2 rfl (by decide) _ _ _ rfl O5.out ⟨wr.heap.size, 0, none⟩ 2 2 [.int .i64 t, .int .i64 1, .int .i64 0, .int .i64 0, .int .i64 (pg N ((f : Int) + 4 * (k : Int) - 1 - 2 * (i : Int))), .int .i64 t, .int .i64 1, .int .i64 0, .int .i64 1, .int .i64 (pg N ((f : Int) + 2 * (i : Int)))] rfl ?c0 ?c1 ?c2 ?c3 ?c4 ?c5 ?_)
              case c0 => rfl
              case c1 => exact cells_new _ _ _
              case c2 => intro u hu; simp at hu; rcases hu with rfl | rfl | rfl | rfl | rfl | rfl | rfl | rfl | rfl | rfl <;> rfl
              case c3 => unfold maxLen; omega
              case c4 => omega
              case c5 => simp; omega
              intro v5 w5 hown5 hgrow5 _
              have O6 : Hid (w5.ownsRow w0.heap.size 37 5 v5 (4 * (u + i) + 2) (flatL encSl (blL s c N (4 * (u + i) + 2)))) := by
                show World.ownsRow _ _ _ _ _ _ _
                rw [PR1.out, E.out.1, E.out.2.1, flatL_append]; exact hown5
              have B6 : Hid (Below w0.heap.size w0 w5) := ((hnx.out.alloc hsz3 _).grown hgrow5 (by simp; omega) (fun j hj => (hown.out.lt j hj).1))
              have hsz5 : w0.heap.size ≤ w5.heap.size := B6.out.size
              clear hown5 hgrow5 O5
              have O5 := Lib.hid (O6.out.alloc (.cells #[.int .i64 t, .int .i64 2, .int .i64 0, .int .i64 0, .int .i64 (pg N ((f : Int) + 2 * (i : Int) + 1)), .int .i64 t, .int .i64 2, .int .i64 0, .int .i64 1, .int .i64 (pg N ((f : Int) + 4 * (k : Int) - 2 - 2 * (i : Int)))] 37))
              go_wp2_with fail
              refine (page_any _ _ _).mono ?_
              rintro e' w' ⟨rfl, rfl⟩
              go_wp2_with fail
              refine (page_any _ _ _).mono ?_
              rintro e' w' ⟨rfl, rfl⟩
              go_wp2_with (at_builtin; refine wpList_append_own _ rfl _ _ 28 rfl w0.heap.size 37 i0 (.agg #[.int .i64 0, .int .i64 0, .int .i64 0, .int .i64 0, .int .i64 0]) 5 40 Try.underlying28 hi hz0 hz1 hz2 rfl (by decide) _ _ _ rfl O5.out ⟨w5.heap.size, 0, none⟩ 2 2 [.int .i64 t, .int .i64 2, .int .i64 0, .int .i64 0, .int .i64 (pg N ((f : Int) + 2 * (i : Int) + 1)), .int .i64 t, .int .i64 2, .int .i64 0, .int .i64 1, .int .i64 (pg N ((f : Int) + 4 * (k : Int) - 2 - 2 * (i : Int)))] rfl ?d0 ?d1 ?d2 ?d3 ?d4 ?d5 ?_)
              case d0 => rfl
              case d1 => exact cells_new _ _ _
              case d2 => intro u hu; simp at hu; rcases hu with rfl | rfl | rfl | rfl | rfl | rfl | rfl | rfl | rfl | rfl <;> rfl
              case d3 => unfold maxLen; omega
              case d4 => omega
              case d5 => simp; omega
              intro v6 w6 hown6 hgrow6 _
              have O7 : Hid (w6.ownsRow w0.heap.size 37 5 v6 (4 * (u + (i + 1))) (flatL encSl (blL s c N (4 * (u + (i + 1)))))) := by
                show World.ownsRow _ _ _ _ _ _ _
                rw [show 4 * (u + (i + 1)) = 4 * (u + i) + 2 + 2 by omega, PR2.out, E.out.2.2.1, E.out.2.2.2, flatL_append]; exact hown6
              have B7 : Hid (Below w0.heap.size w0 w6) := ((B6.out.alloc hsz5 _).grown hgrow6 (by simp; omega) (fun j hj => (O6.out.lt j hj).1))
              have HT2 : Hid (t + 1 = u + (i + 1) + 1) := by show _ = _; have := HTI.out; omega
              clear hown6 hgrow6 O5 E PR1 PR2
              go_wp2_with fail
              go_roundw
              case rel => exact ⟨t + 1, i + 1, by go_num, by go_num, by omega, by omega, B7.out.size, O7.out, B7.out, HT2.out⟩
              case measure => simp [intOf]; omega
            · have hlt3' : ¬ (i : Int) < (k : Int) := by omega
              obtain ⟨p0, p1, p2, p3, p4⟩ := (HP.out.keep hnx.out).facts5
              have HU2 : Hid (u + i = min ((m + 1) * s) c) := by
                show _ = _
                have := next_min s c m (by have := HUM.out; omega)
                have := HK.out
                have := HUM.out
                omega
              have HF2 : Hid (f + 4 * s = (m + 1) * (4 * s)) := by show _ = _; rw [show (m + 1) * (4 * s) = m * (4 * s) + 4 * s from Nat.succ_mul m (4 * s), ← HF.out]
              have HT2 : t = u + i + 1 := HTI.out
              have HT3 := Lib.hid HT2
              have huic : u + i ≤ c := by omega
              have HFB := Lib.hid (show f + 4 * s ≤ 1000300 by omega)
              clear HT2
              go_wp2_with fail
              go_roundw
              case rel => exact ⟨t, f + 4 * s, m + 1, u + i, rfl, by go_num, HT3.out, huic, HFB.out, hsz3, hown.out, hnx.out, HF2.out, HU2.out⟩
              case measure => (simp only [intOf]; omega)
    · have hlt' : ¬ (f : Int) < (N : Int) := by omega
      have hms : 4 * (m * s) = f := by rw [HF.out, Nat.mul_left_comm]
      have hum : u = c := by rw [HU.out]; omega
      have HUM := Lib.hid hum
      clear hms hum
      go_wp2_with fail
      go_ret
      refine ⟨_, rfl, ?_, HB.out.trans (hnx.out.mono (by omega))⟩
      rw [show 4 * c = 4 * u by have := HUM.out; omega, blL_length]
      exact ownsRow_base hown.out (by omega)
end Go.Proofs.Ythiplocjiamahaa
