/-
  gatefoldref33.grid returns all slots of a grid; below the heap's size at the call nothing turns.
-/
import Derived.Test.YthiplocjiamahaaShr
namespace Go.Proofs.Ythiplocjiamahaa
open Go.RowKit Go.Proofs.Shs

set_option maxHeartbeats 8000000 in
theorem rgrid_any (r c s N : Nat) (w : World) (h1 : 1 ≤ r) (h2 : r ≤ 16) (h3 : 1 ≤ c) (h4 : c ≤ 16) (h5 : 1 ≤ s) (h6 : s ≤ 2) (hN : N ≤ 999999) :
    Calls Try.prog 28 #[.agg #[.int .i64 1, .int .i64 r, .int .i64 c, .int .i64 s, .int .i64 0], .int .i64 N] w fun e w' =>
      ∃ v', e = .returned v' ∧ w'.ownsRow w.heap.size 37 5 v' (gl r c s N ((N + r * c * s - 1) / (r * c * s) * (r * c * s))).length (flatL encSl (gl r c s N ((N + r * c * s - 1) / (r * c * s) * (r * c * s)))) ∧ Below w.heap.size w w' := by
  obtain ⟨i0, hi, hz0, hz1, hz2⟩ := info_parts Try.infoSlot
  have hR : 0 < r * c * s := Nat.mul_pos (Nat.mul_pos h1 h3) h5
  have HR := Lib.hid hR
  clear hR
  go_enter Try.func28, Try.ntmps28
  go_wp2_with fail
  refine gen_world (F := fun W => Blk W w.heap.size 23 #[.int .i64 1, .int .i64 r, .int .i64 c, .int .i64 s, .int .i64 0] ∧ Below w.heap.size w W) _ ⟨Blk.new w _ _, bl (Below.refl _ _) _⟩ ?_
  rintro w0 ⟨hP0, hB0⟩
  have HP := Lib.hid hP0
  have HB := Lib.hid hB0
  have hz0' : w.heap.size < w0.heap.size := hP0.lt
  clear hP0 hB0
  go_loopw [5, 6, 7] (fun v i6 i7 wr => ∃ (a t : Nat), i6 = .int .i64 a ∧ i7 = .int .i64 t ∧ 1 ≤ t ∧ t ≤ a + 1 ∧ a ≤ 1000511 ∧ w0.heap.size ≤ wr.heap.size ∧ Hid (wr.ownsRow w0.heap.size 37 5 v a (flatL encSl (gl r c s N a))) ∧ Hid (Below w0.heap.size w0 wr) ∧ Hid (a = ((t - 1) * s) * r * c) ∧ Hid (a < N + r * c * s))
    (fun _ i6 _ _ => N - (intOf i6).toNat)
  case atStart => exact ⟨0, 1, rfl, rfl, by omega, by omega, by omega, Nat.le_refl _, World.ownsRow_nil _ _ _ _, Below.refl _ _, by show 0 = _; simp, by show 0 < _; have := HR.out; omega⟩
  case round =>
    obtain ⟨a, t, rfl, rfl, ht1, hta, hab, hsz, hown, hnx, HA, HU⟩ := hrel
    by_cases hlt : a < N
    · have hlt' : (a : Int) < (N : Int) := by omega
      go_wp2_with fail
      obtain ⟨w1, rfl⟩ : ∃ w1 : World, w1 = wr := ⟨_, rfl⟩
      go_loopw [5, 6, 8] (fun v i6 i8 wr => ∃ (a2 d : Nat), i6 = .int .i64 a2 ∧ i8 = .int .i64 d ∧ 1 ≤ d ∧ d ≤ s + 1 ∧ a + (d - 1) ≤ a2 ∧ a2 ≤ a + (d - 1) * 256 ∧ w0.heap.size ≤ wr.heap.size ∧ Hid (wr.ownsRow w0.heap.size 37 5 v a2 (flatL encSl (gl r c s N a2))) ∧ Hid (Below w0.heap.size w0 wr) ∧ Hid (a2 = (((t - 1) * s + (d - 1)) * r) * c))
        (fun _ _ i8 _ => s + 1 - (intOf i8).toNat)
      case atStart => exact ⟨a, 1, rfl, rfl, by omega, by omega, by omega, by omega, hsz, hown.out, hnx.out, by show a = _; rw [HA.out]; simp⟩
      case round =>
        obtain ⟨a2, d, rfl, rfl, hd1, hd2, ha21, ha22, hsz2, hown, hnx, HA2⟩ := hrel
        obtain ⟨p0, p1, p2, p3, p4⟩ := (HP.out.keep hnx.out).facts5
        by_cases hlt2 : d ≤ s
        · have hlt2' : (d : Int) ≤ (s : Int) := by omega
          go_wp2_with fail
          clear p0 p1 p2 p3 p4
          obtain ⟨w2, rfl⟩ : ∃ w2 : World, w2 = wr := ⟨_, rfl⟩
          go_loopw [5, 6, 9] (fun v i6 i9 wr => ∃ (a3 e : Nat), i6 = .int .i64 a3 ∧ i9 = .int .i64 e ∧ e ≤ r ∧ a2 + e ≤ a3 ∧ a3 ≤ a2 + e * 16 ∧ w0.heap.size ≤ wr.heap.size ∧ Hid (wr.ownsRow w0.heap.size 37 5 v a3 (flatL encSl (gl r c s N a3))) ∧ Hid (Below w0.heap.size w0 wr) ∧ Hid (a3 = (((t - 1) * s + (d - 1)) * r + e) * c))
            (fun _ _ i9 _ => r - (intOf i9).toNat)
          case atStart => exact ⟨a2, 0, rfl, rfl, by omega, by omega, by omega, hsz2, hown.out, hnx.out, by show a2 = _; rw [HA2.out]; simp⟩
          case round =>
            obtain ⟨a3, e, rfl, rfl, he1, ha31, ha32, hsz3, hown, hnx, HA3⟩ := hrel
            obtain ⟨p0, p1, p2, p3, p4⟩ := (HP.out.keep hnx.out).facts5
            by_cases hlt3 : e < r
            · have hlt3' : (e : Int) < (r : Int) := by omega
              go_wp2_with fail
              clear p0 p1 p2 p3 p4
              obtain ⟨w3, rfl⟩ : ∃ w3 : World, w3 = wr := ⟨_, rfl⟩
              go_loopw [5, 6, 10] (fun v i6 i10 wr => ∃ (a4 f : Nat), i6 = .int .i64 a4 ∧ i10 = .int .i64 f ∧ f ≤ c ∧ a3 + f ≤ a4 ∧ a4 ≤ a3 + f ∧ w0.heap.size ≤ wr.heap.size ∧ Hid (wr.ownsRow w0.heap.size 37 5 v a4 (flatL encSl (gl r c s N a4))) ∧ Hid (Below w0.heap.size w0 wr) ∧ Hid (a4 = (((t - 1) * s + (d - 1)) * r + e) * c + f))
                (fun _ _ i10 _ => c - (intOf i10).toNat)
              case atStart => exact ⟨a3, 0, rfl, rfl, by omega, by omega, by omega, hsz3, hown.out, hnx.out, by show a3 = _; rw [HA3.out]; simp⟩
              case round =>
                obtain ⟨a4, f, rfl, rfl, hf1, ha41, ha42, hsz4, hown, hnx, HA4⟩ := hrel
                obtain ⟨p0, p1, p2, p3, p4⟩ := (HP.out.keep hnx.out).facts5
                by_cases hlt4 : f < c
                · have hlt4' : (f : Int) < (c : Int) := by omega
                  have E := Lib.hid (grid_at r c s N t d e f a4 ht1 hd1 hlt2 hlt3 hlt4 HA4.out)
                  have PR := Lib.hid (gl_succ r c s N a4)
                  have O5 := Lib.hid (hown.out.alloc (.cells #[.int .i64 t, .int .i64 d, .int .i64 e, .int .i64 f, .int .i64 (pg N a4)] 37))
                  have cp := fun W => page_any (a4 : Int) (N : Int) W
                  have hb1 : a4 + 1 ≤ maxLen := by unfold maxLen; omega
                  have hb2 : (a4 + 1) * 40 ≤ 140737488355328 := by omega
                  go_wp2_with fail
                  refine (cp _).mono ?_
                  rintro e' w' ⟨rfl, rfl⟩
                  go_wp2_with (at_builtin; refine wpList_append_own _ rfl _ _ 28 rfl w0.heap.size 37 i0 (.agg #[.int .i64 0, .int .i64 0, .int .i64 0, .int .i64 0, .int .i64 0]) 5 40 Try.underlying28 hi hz0 hz1 hz2 rfl (by decide) _ _ _ rfl O5.out ⟨wr.heap.size, 0, none⟩ 1 1 [.int .i64 t, .int .i64 d, .int .i64 e, .int .i64 f, .int .i64 (pg N a4)] rfl ?c0 ?c1 ?c2 ?c3 ?c4 ?c5 ?_)
                  case c0 => rfl
                  case c1 => exact cells_new _ _ _
                  case c2 => intro u hu; simp at hu; rcases hu with rfl | rfl | rfl | rfl | rfl <;> rfl
                  case c3 => exact hb1
                  case c4 => exact hb2
                  case c5 => simp; omega
                  intro v5 w5 hown5 hgrow5 _
                  have O6 : Hid (w5.ownsRow w0.heap.size 37 5 v5 (a4 + 1) (flatL encSl (gl r c s N (a4 + 1)))) := by
                    show World.ownsRow _ _ _ _ _ _ _
                    rw [PR.out, E.out, flatL_append, flatL_one_]; exact hown5
                  have B6 : Hid (Below w0.heap.size w0 w5) := ((hnx.out.alloc hsz4 _).grown hgrow5 (by simp; omega) (fun j hj => (hown.out.lt j hj).1))
                  have HA5 : Hid (a4 + 1 = (((t - 1) * s + (d - 1)) * r + e) * c + (f + 1)) := by show _ = _; rw [← Nat.add_assoc, ← HA4.out]
                  clear hown5 hgrow5 O5 E PR cp
                  go_wp2_with fail
                  go_roundw
                  case rel => exact ⟨a4 + 1, f + 1, by go_num, by go_num, by omega, by omega, by omega, B6.out.size, O6.out, B6.out, HA5.out⟩
                  case measure => simp [intOf]; omega
                · have hlt4' : ¬ (f : Int) < (c : Int) := by omega
                  have HA5 : Hid (a4 = (((t - 1) * s + (d - 1)) * r + (e + 1)) * c) := by
                    show _ = _
                    rw [HA4.out, show f = c by omega, ← Nat.add_assoc, Nat.succ_mul]
                  go_wp2_with fail
                  go_roundw
                  case rel => exact ⟨a4, e + 1, rfl, by go_num, by omega, by omega, by omega, hsz4, hown.out, hnx.out, HA5.out⟩
                  case measure => simp [intOf]; omega
            · have hlt3' : ¬ (e : Int) < (r : Int) := by omega
              have HA5 : Hid (a3 = (((t - 1) * s + (d + 1 - 1)) * r) * c) := by
                show _ = _
                rw [HA3.out, show e = r by omega, show (t - 1) * s + (d + 1 - 1) = ((t - 1) * s + (d - 1)) + 1 by omega, Nat.succ_mul]
              go_wp2_with fail
              go_roundw
              case rel => exact ⟨a3, d + 1, rfl, by go_num, by omega, by omega, by omega, by omega, hsz3, hown.out, hnx.out, HA5.out⟩
              case measure => simp [intOf]; omega
        · have hlt2' : ¬ (d : Int) ≤ (s : Int) := by omega
          have HA5 : Hid (a2 = ((t + 1 - 1) * s) * r * c) := by
            show _ = _
            rw [HA2.out, show d - 1 = s by omega, show t + 1 - 1 = (t - 1) + 1 by omega, Nat.succ_mul]
          have HU5 : Hid (a2 < N + r * c * s) := by
            show _ < _
            have e1 : a2 = a + r * c * s := by
              rw [HA2.out, HA.out, show d - 1 = s by omega, Nat.add_mul, Nat.add_mul, Nat.mul_comm s r, Nat.mul_assoc r s c, Nat.mul_comm s c, ← Nat.mul_assoc]
            omega
          go_wp2_with fail
          go_roundw
          case rel => exact ⟨a2, t + 1, rfl, by go_num, by omega, by omega, by omega, hsz2, hown.out, hnx.out, HA5.out, HU5.out⟩
          case measure => simp [intOf]; omega
    · have hlt' : ¬ (a : Int) < (N : Int) := by omega
      have E := Lib.hid (gl_all r c s N a t HR.out HA.out (by omega) HU.out)
      go_wp2_with fail
      go_ret
      refine ⟨_, rfl, ?_, HB.out.trans (hnx.out.mono (by omega))⟩
      rw [← E.out, gl_length]
      exact ownsRow_base hown.out (by omega)
end Go.Proofs.Ythiplocjiamahaa
