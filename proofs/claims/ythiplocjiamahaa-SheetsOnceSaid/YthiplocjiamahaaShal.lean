/-
  sheets.All returns all slots of whatever plan, whatever pages, in order, in new memory; below the heap's size at the call nothing turns.
-/
import Derived.Test.YthiplocjiamahaaShp
import Derived.Test.YthiplocjiamahaaSht
import Derived.OwnWalk
import Derived.Laws.AppendOwn
namespace Go.Proofs.Ythiplocjiamahaa
open Go.RowKit Go.Proofs.Shs

theorem Try.infoSlot : (Try.prog.info? 37).map (fun i => (i.zero, i.size, i.bytes)) = some (some (.agg #[.int .i64 0, .int .i64 0, .int .i64 0, .int .i64 0, .int .i64 0]), 5, 40) := by kernel_rfl
theorem at2 (sh n : Int) (hm : mayP ⟨2, 1, 2, 2, sh⟩ = true) (q : Nat) (hq : q < cntN ⟨2, 1, 2, 2, sh⟩ n * perP ⟨2, 1, 2, 2, sh⟩) (f1 : 0 ≤ n) (f2 : n ≤ 999999) (_ : (2 : Int) = 2) : (q : Int) < 4 * ((n + 4 - 1) / 4) := by
  have h1 := cntN_int ⟨2, 1, 2, 2, sh⟩ n hm f1 f2
  rw [show cntP ⟨2, 1, 2, 2, sh⟩ n = (n + 4 - 1) / 4 by unfold cntP; rw [if_pos ⟨hm, f1, f2⟩]; rfl] at h1
  rw [perP_book _ hm (by simp)] at hq
  omega

set_option maxHeartbeats 8000000 in
theorem all_grid (r c s n : Int) (w : World) (h1 : 1 ≤ r) (h2 : r ≤ 16) (h3 : 1 ≤ c) (h4 : c ≤ 16) (h5 : 1 ≤ s) (h6 : s ≤ 2) (f1 : 0 ≤ n) (f2 : n ≤ 999999) :
    Calls Try.prog 14 #[.agg #[.int .i64 1, .int .i64 r, .int .i64 c, .int .i64 s, .int .i64 0], .int .i64 n] w fun e w' => ∃ A cp, e = .returned (.slice A (allP ⟨1, r, c, s, 0⟩ n).length cp) ∧ (allP ⟨1, r, c, s, 0⟩ n).length ≤ cp ∧ cp ≤ maxLen ∧ RowAt encSl 5 w' A (allP ⟨1, r, c, s, 0⟩ n) ∧ Below w.heap.size w w' := by
  obtain ⟨i0, hi, hz0, hz1, hz2⟩ := info_parts Try.infoSlot
  have hm : mayP ⟨1, r, c, s, 0⟩ = true := by unfold mayP gridB bookB; simp; omega
  have co := fun W => of_any 1 r c s 0 W
  rw [hm, wayV_grid] at co
  have cf := fun W => few_yes n W f1 f2
  have ca := fun (q : Nat) (hq : q < cntN ⟨1, r, c, s, 0⟩ n * perP ⟨1, r, c, s, 0⟩) W => at_way 1 r c s 0 n q W hm (by omega) (by have := (cnt_bd ⟨1, r, c, s, 0⟩ n hm).2; have := (perP_pos ⟨1, r, c, s, 0⟩ hm).2; omega) f1 f2 (fun h => absurd h (by omega))
  have hall := all_only ⟨1, r, c, s, 0⟩ n
  have hK : ((cntN ⟨1, r, c, s, 0⟩ n * perP ⟨1, r, c, s, 0⟩ : Nat) : Int) = cntP ⟨1, r, c, s, 0⟩ n * (r * c * s) := by rw [Int.natCast_mul, cntN_int _ n hm f1 f2, perP_int _ hm]
  have hc := cnt_bd ⟨1, r, c, s, 0⟩ n hm
  have hp := (perP_pos ⟨1, r, c, s, 0⟩ hm).2
  have hcn := cntN_int ⟨1, r, c, s, 0⟩ n hm f1 f2
  have hcb : cntN ⟨1, r, c, s, 0⟩ n ≤ 1000000 := by
    have h0 := (perP_pos ⟨1, r, c, s, 0⟩ hm).1
    unfold cntN
    exact Nat.le_trans (Nat.div_le_div_right (c := perP ⟨1, r, c, s, 0⟩) (show _ ≤ n.toNat * perP ⟨1, r, c, s, 0⟩ + (perP ⟨1, r, c, s, 0⟩ - 1) by have := Nat.le_mul_of_pos_right n.toNat h0; omega)) (by rw [Nat.mul_comm, Nat.mul_add_div h0, Nat.div_eq_of_lt (by omega)]; omega)
  have cg := fun W => countGrid_any 1 r c s 0 n W h1 h2 h3 h4 h5 h6 f1 f2
  rw [show (n + r * c * s - 1) / (r * c * s) = cntP ⟨1, r, c, s, 0⟩ n by unfold cntP; rw [if_pos ⟨hm, f1, f2⟩]; rfl] at cg
  generalize hKK : cntP ⟨1, r, c, s, 0⟩ n = K at cg hK hcn
  generalize hNN : cntN ⟨1, r, c, s, 0⟩ n * perP ⟨1, r, c, s, 0⟩ = N at ca hK hall hc
  have hK0 : 0 ≤ K := by omega
  have hK1 : K ≤ 1000000 := by omega
  have hK' : K * r * c * s = (N : Int) := by rw [hK, Int.mul_assoc, Int.mul_assoc, Int.mul_assoc]
  have e1 : 0 ≤ K * r := Int.mul_nonneg hK0 (by omega)
  have e2 : K * r ≤ 1000000 * 16 := Int.mul_le_mul hK1 h2 (by omega) (by omega)
  have e3 : 0 ≤ K * r * c := Int.mul_nonneg e1 (by omega)
  have e4 : K * r * c ≤ 16000000 * 16 := Int.mul_le_mul (by omega) h4 (by omega) (by omega)
  have e5 : K * r * c * s ≤ 9000000000 := by omega
  have e6 : 0 ≤ K * r * c * s := by omega
  have HKK := Lib.hid hK'
  have HK := Lib.hid hK
  have hN : N ≤ 1000511 := by omega
  have CA := Lib.hid ca
  have HALL := Lib.hid hall
  have HM := Lib.hid hm
  clear hKK hNN hm hall ca hK hc hp hcn hcb hK'
  go_enter Try.func14, Try.ntmps14
  go_wp2_with fail
  refine (co _).mono ?_
  rintro e w1 ⟨rfl, hb⟩
  have HP1 := Lib.hid ((Blk.new w 23 #[.int .i64 1, .int .i64 r, .int .i64 c, .int .i64 s, .int .i64 0]).keep hb)
  have HB1 := Lib.hid (bt (bl (Below.refl _ _) _) hb)
  have hz : w.heap.size < w1.heap.size := HP1.out.lt
  clear hb co
  go_wp2_with fail
  refine (cf _).mono ?_
  rintro e w' ⟨rfl, rfl⟩
  go_wp2_with fail
  refine gen_world (F := fun W => Blk W w.heap.size 23 #[.int .i64 1, .int .i64 r, .int .i64 c, .int .i64 s, .int .i64 0] ∧ Blk W w1.heap.size 48 #[fnV 40, fnV 41, fnV 42] ∧ Below w.heap.size w W) _ ⟨HP1.out.alloc _, Blk.new w1 _ _, bl HB1.out _⟩ ?_
  rintro W ⟨hP, hR, hB⟩
  have g0 := fun p : From W => (hP.keep p.below).cell 0
  have g1 := fun p : From W => (hP.keep p.below).cell 1
  have g2 := fun p : From W => (hP.keep p.below).cell 2
  have g3 := fun p : From W => (hP.keep p.below).cell 3
  have g4 := fun p : From W => (hP.keep p.below).cell 4
  have g5 := fun p : From W => (hR.keep p.below).cell 1
  refine wp_region_from (by kernel_rfl) (by kernel_rfl) ?_
  repeat (go_big_quiet_step ((go_at_call 41; exact calls_from (cg _))))
  refine wpQuiet_nil ?_
  intro _ hw'
  obtain ⟨p, rfl⟩ := hw'
  have HP3 := Lib.hid (hP.keep p.below)
  have HR3 := Lib.hid (hR.keep p.below)
  have HB3 := Lib.hid (bt hB p.below)
  generalize p.W = w3 at HP3 HR3 HB3 ⊢
  clear g0 g1 g2 g3 g4 g5 hP hR hB p HP1 HB1
  generalize w1.heap.size = g at HR3 ⊢
  rw [HKK.out]
  clear e1 e2 e3 e4 e5 e6
  go_wp2_with fail
  go_loopw [7, 36] (fun v i wr => ∃ (k : Nat), k ≤ N ∧ i = .int .i64 k ∧ w3.heap.size ≤ wr.heap.size ∧ Hid (wr.ownsRow w3.heap.size 37 5 v (progL ⟨1, r, c, s, 0⟩ n k).length (flatL encSl (progL ⟨1, r, c, s, 0⟩ n k))) ∧ Hid (Below w3.heap.size w3 wr))
    (fun _ i _ => N - (intOf i).toNat)
  case atStart => exact ⟨0, Nat.zero_le _, rfl, Nat.le_refl _, World.ownsRow_nil _ _ _ _, Below.refl _ _⟩
  case round =>
    obtain ⟨k, hk, rfl, hsz, hown, hnx⟩ := hrel
    by_cases hlt : k < N
    · have cA := fun W => (CA.out k hlt W).elim (fun h => h.2) (fun h => absurd h.1 (by omega))
      have hlt' : (k : Int) < (N : Int) := by omega
      have PR := Lib.hid (progL_succ ⟨1, r, c, s, 0⟩ n k)
      have PL := Lib.hid (progL_length ⟨1, r, c, s, 0⟩ n k)
      have hpr : progAt ⟨1, r, c, s, 0⟩ n k = if n ≤ (k : Int) then { atP ⟨1, r, c, s, 0⟩ n k with page := -1 } else atP ⟨1, r, c, s, 0⟩ n k := rfl
      obtain ⟨⟨a0, a1, a2, a3, a4⟩, ha⟩ : ∃ x, atP ⟨1, r, c, s, 0⟩ n k = x := ⟨_, rfl⟩
      rw [ha] at cA hpr
      clear ha
      obtain ⟨p0, p1, p2, p3, p4⟩ := (HP3.out.keep hnx.out).facts5
      have r2 := (HR3.out.keep hnx.out).cell 2
      have hzk : (progL ⟨1, r, c, s, 0⟩ n k).length = k := progL_length _ _ _
      by_cases hge : n ≤ (k : Int)
      · rw [if_pos hge] at hpr
        simp only at hpr
        have E := Lib.hid hpr
        have hb1 : k + 1 ≤ maxLen := by unfold maxLen; omega
        have hb2 : (k + 1) * 40 ≤ 140737488355328 := by omega
        have HZ := Lib.hid hzk
        clear hpr hzk
        go_wp2_with fail
        refine (cA _).mono ?_
        rintro e w4 ⟨rfl, hb4⟩
        have O4 := Lib.hid (ob hown.out hb4)
        have B4 := Lib.hid (hnx.out.trans (hb4.mono hsz))
        have hz4 : wr.heap.size ≤ w4.heap.size := hb4.size
        clear hb4 p0 p1 p2 p3 p4 r2
        have O5 : Hid (((w4.alloc (.cells #[.int .i64 a0, .int .i64 a1, .int .i64 a2, .int .i64 a3, .int .i64 (-1)] 37)).alloc (.cells #[.int .i64 a0, .int .i64 a1, .int .i64 a2, .int .i64 a3, .int .i64 (-1)] 37)).ownsRow w3.heap.size 37 5 u7 k (flatL encSl (progL ⟨1, r, c, s, 0⟩ n k))) := by
          have := (O4.out.alloc (.cells #[.int .i64 a0, .int .i64 a1, .int .i64 a2, .int .i64 a3, .int .i64 (-1)] 37)).alloc (.cells #[.int .i64 a0, .int .i64 a1, .int .i64 a2, .int .i64 a3, .int .i64 (-1)] 37)
          rw [HZ.out] at this
          exact this
        go_wp2_with (at_builtin; refine wpList_append_own _ rfl _ _ 28 rfl w3.heap.size 37 i0 (.agg #[.int .i64 0, .int .i64 0, .int .i64 0, .int .i64 0, .int .i64 0]) 5 40 Try.underlying28 hi hz0 hz1 hz2 rfl (by decide) _ _ _ rfl O5.out ⟨w4.heap.size + 1, 0, none⟩ 1 1 [.int .i64 a0, .int .i64 a1, .int .i64 a2, .int .i64 a3, .int .i64 (-1)] rfl ?c0 ?c1 ?c2 ?c3 ?c4 ?c5 ?_)
        case c0 => rfl
        case c1 => have := cells_new (w4.alloc (.cells #[.int .i64 a0, .int .i64 a1, .int .i64 a2, .int .i64 a3, .int .i64 (-1)] 37)) 37 [.int .i64 a0, .int .i64 a1, .int .i64 a2, .int .i64 a3, .int .i64 (-1)]; simpa using this
        case c2 => intro u hu; simp at hu; rcases hu with rfl | rfl | rfl | rfl | rfl <;> rfl
        case c3 => exact hb1
        case c4 => exact hb2
        case c5 => simp; omega
        intro v5 w5 hown5 hgrow5 _
        have O6 : Hid (w5.ownsRow w3.heap.size 37 5 v5 (progL ⟨1, r, c, s, 0⟩ n (k + 1)).length (flatL encSl (progL ⟨1, r, c, s, 0⟩ n (k + 1)))) := by
          show World.ownsRow _ _ _ _ _ _ _
          rw [progL_length, PR.out, E.out, flatL_append, flatL_one_]; exact hown5
        have B6 : Hid (Below w3.heap.size w3 w5) := (((B4.out.alloc (by omega) _).alloc (by simp; omega) _).grown hgrow5 (by simp; omega) (fun j hj => (O4.out.lt j hj).1))
        clear hown5 hgrow5
        go_wp2_with fail
        go_roundw
        case rel => exact ⟨k + 1, by omega, by go_num, B6.out.size, O6.out, B6.out⟩
        case measure => simp [intOf]; omega
      · rw [if_neg hge] at hpr
        have E := Lib.hid hpr
        have hb1 : k + 1 ≤ maxLen := by unfold maxLen; omega
        have hb2 : (k + 1) * 40 ≤ 140737488355328 := by omega
        have HZ := Lib.hid hzk
        clear hpr hzk
        go_wp2_with fail
        refine (cA _).mono ?_
        rintro e w4 ⟨rfl, hb4⟩
        have O4 := Lib.hid (ob hown.out hb4)
        have B4 := Lib.hid (hnx.out.trans (hb4.mono hsz))
        have hz4 : wr.heap.size ≤ w4.heap.size := hb4.size
        clear hb4 p0 p1 p2 p3 p4 r2
        have O5 : Hid (((w4.alloc (.cells #[.int .i64 a0, .int .i64 a1, .int .i64 a2, .int .i64 a3, .int .i64 a4] 37)).alloc (.cells #[.int .i64 a0, .int .i64 a1, .int .i64 a2, .int .i64 a3, .int .i64 a4] 37)).ownsRow w3.heap.size 37 5 u7 k (flatL encSl (progL ⟨1, r, c, s, 0⟩ n k))) := by
          have := (O4.out.alloc (.cells #[.int .i64 a0, .int .i64 a1, .int .i64 a2, .int .i64 a3, .int .i64 a4] 37)).alloc (.cells #[.int .i64 a0, .int .i64 a1, .int .i64 a2, .int .i64 a3, .int .i64 a4] 37)
          rw [HZ.out] at this
          exact this
        go_wp2_with (at_builtin; refine wpList_append_own _ rfl _ _ 28 rfl w3.heap.size 37 i0 (.agg #[.int .i64 0, .int .i64 0, .int .i64 0, .int .i64 0, .int .i64 0]) 5 40 Try.underlying28 hi hz0 hz1 hz2 rfl (by decide) _ _ _ rfl O5.out ⟨w4.heap.size + 1, 0, none⟩ 1 1 [.int .i64 a0, .int .i64 a1, .int .i64 a2, .int .i64 a3, .int .i64 a4] rfl ?d0 ?d1 ?d2 ?d3 ?d4 ?d5 ?_)
        case d0 => rfl
        case d1 => have := cells_new (w4.alloc (.cells #[.int .i64 a0, .int .i64 a1, .int .i64 a2, .int .i64 a3, .int .i64 a4] 37)) 37 [.int .i64 a0, .int .i64 a1, .int .i64 a2, .int .i64 a3, .int .i64 a4]; simpa using this
        case d2 => intro u hu; simp at hu; rcases hu with rfl | rfl | rfl | rfl | rfl <;> rfl
        case d3 => exact hb1
        case d4 => exact hb2
        case d5 => simp; omega
        intro v5 w5 hown5 hgrow5 _
        have O6 : Hid (w5.ownsRow w3.heap.size 37 5 v5 (progL ⟨1, r, c, s, 0⟩ n (k + 1)).length (flatL encSl (progL ⟨1, r, c, s, 0⟩ n (k + 1)))) := by
          show World.ownsRow _ _ _ _ _ _ _
          rw [progL_length, PR.out, E.out, flatL_append, flatL_one_]; exact hown5
        have B6 : Hid (Below w3.heap.size w3 w5) := (((B4.out.alloc (by omega) _).alloc (by simp; omega) _).grown hgrow5 (by simp; omega) (fun j hj => (O4.out.lt j hj).1))
        clear hown5 hgrow5
        go_wp2_with fail
        go_roundw
        case rel => exact ⟨k + 1, by omega, by go_num, B6.out.size, O6.out, B6.out⟩
        case measure => simp [intOf]; omega
    · have e : k = N := by omega
      have HKN := Lib.hid e
      have hlt' : ¬ (k : Int) < (N : Int) := by omega
      have hzk : (progL ⟨1, r, c, s, 0⟩ n k).length = k := progL_length _ _ _
      have cs := sort_row w3.heap.size u7 (progL ⟨1, r, c, s, 0⟩ n k) wr hown.out hsz (by omega)
      have CS := Lib.hid cs
      clear cs e hzk
      go_wp2_with fail
      refine CS.out.mono ?_
      rintro e w5 ⟨rfl, d, hd1, hd2, ⟨A, cp, hv, hl1, hl2, hA⟩, hb5⟩
      have hd : d = allP ⟨1, r, c, s, 0⟩ n := HALL.out d HM.out f1 f2 (by have := hd1; rw [HKN.out] at this; exact this) hd2
      have hl := hd1.length_eq
      subst hv
      have HA := Lib.hid hA
      have HD := Lib.hid hd
      have HL := Lib.hid hl
      have HL1 := Lib.hid hl1
      have HL2 := Lib.hid hl2
      have HB5 := Lib.hid (bt HB3.out (hnx.out.trans hb5))
      clear hd1 hd2 hA hb5 hd hl hl1 hl2
      go_wp2_with fail
      go_ret
      refine ⟨A, cp, ?_, by rw [← HD.out, HL.out]; exact HL1.out, HL2.out, by rw [← HD.out]; exact HA.out, HB5.out⟩
      rw [← HD.out, HL.out]
      rfl

set_option maxHeartbeats 8000000 in
theorem all_book (sh n : Int) (w : World) (h1 : 1 ≤ sh) (h2 : sh ≤ 64) (f1 : 0 ≤ n) (f2 : n ≤ 999999) :
    Calls Try.prog 14 #[.agg #[.int .i64 2, .int .i64 1, .int .i64 2, .int .i64 2, .int .i64 sh], .int .i64 n] w fun e w' => ∃ A cp, e = .returned (.slice A (allP ⟨2, 1, 2, 2, sh⟩ n).length cp) ∧ (allP ⟨2, 1, 2, 2, sh⟩ n).length ≤ cp ∧ cp ≤ maxLen ∧ RowAt encSl 5 w' A (allP ⟨2, 1, 2, 2, sh⟩ n) ∧ Below w.heap.size w w' := by
  obtain ⟨i0, hi, hz0, hz1, hz2⟩ := info_parts Try.infoSlot
  have hm : mayP ⟨2, 1, 2, 2, sh⟩ = true := by unfold mayP gridB bookB; simp; omega
  have co := fun W => of_any 2 1 2 2 sh W
  rw [hm, wayV_book] at co
  have cf := fun W => few_yes n W f1 f2
  have ca := fun (q : Nat) (hq : q < cntN ⟨2, 1, 2, 2, sh⟩ n * perP ⟨2, 1, 2, 2, sh⟩) W => at_way 2 1 2 2 sh n q W hm (by omega) (by have := (cnt_bd ⟨2, 1, 2, 2, sh⟩ n hm).2; have := (perP_pos ⟨2, 1, 2, 2, sh⟩ hm).2; omega) f1 f2 (at2 sh n hm q hq f1 f2)
  have hall := all_only ⟨2, 1, 2, 2, sh⟩ n
  have hK : ((cntN ⟨2, 1, 2, 2, sh⟩ n * perP ⟨2, 1, 2, 2, sh⟩ : Nat) : Int) = cntP ⟨2, 1, 2, 2, sh⟩ n * (1 * 2 * 2) := by rw [Int.natCast_mul, cntN_int _ n hm f1 f2, perP_int _ hm]
  have hc := cnt_bd ⟨2, 1, 2, 2, sh⟩ n hm
  have hp := (perP_pos ⟨2, 1, 2, 2, sh⟩ hm).2
  have hcn := cntN_int ⟨2, 1, 2, 2, sh⟩ n hm f1 f2
  have hcb : cntN ⟨2, 1, 2, 2, sh⟩ n ≤ 1000000 := by
    have h0 := (perP_pos ⟨2, 1, 2, 2, sh⟩ hm).1
    unfold cntN
    exact Nat.le_trans (Nat.div_le_div_right (c := perP ⟨2, 1, 2, 2, sh⟩) (show _ ≤ n.toNat * perP ⟨2, 1, 2, 2, sh⟩ + (perP ⟨2, 1, 2, 2, sh⟩ - 1) by have := Nat.le_mul_of_pos_right n.toNat h0; omega)) (by rw [Nat.mul_comm, Nat.mul_add_div h0, Nat.div_eq_of_lt (by omega)]; omega)
  have cg := fun W => countBook_any 2 1 2 2 sh n W f1 f2
  rw [show (n + 4 - 1) / 4 = cntP ⟨2, 1, 2, 2, sh⟩ n by unfold cntP; rw [if_pos ⟨hm, f1, f2⟩]; rfl] at cg
  generalize hKK : cntP ⟨2, 1, 2, 2, sh⟩ n = K at cg hK hcn
  generalize hNN : cntN ⟨2, 1, 2, 2, sh⟩ n * perP ⟨2, 1, 2, 2, sh⟩ = N at ca hK hall hc
  have hK0 : 0 ≤ K := by omega
  have hK1 : K ≤ 1000000 := by omega
  have hK' : K * 2 * 2 = (N : Int) := by omega
  have HKK := Lib.hid hK'
  have HK := Lib.hid hK
  have hN : N ≤ 1000511 := by omega
  have CA := Lib.hid ca
  have HALL := Lib.hid hall
  have HM := Lib.hid hm
  clear hKK hNN hm hall ca hK hc hp hcn hcb hK'
  go_enter Try.func14, Try.ntmps14
  go_wp2_with fail
  refine (co _).mono ?_
  rintro e w1 ⟨rfl, hb⟩
  have HP1 := Lib.hid ((Blk.new w 23 #[.int .i64 2, .int .i64 1, .int .i64 2, .int .i64 2, .int .i64 sh]).keep hb)
  have HB1 := Lib.hid (bt (bl (Below.refl _ _) _) hb)
  have hz : w.heap.size < w1.heap.size := HP1.out.lt
  clear hb co
  go_wp2_with fail
  refine (cf _).mono ?_
  rintro e w' ⟨rfl, rfl⟩
  go_wp2_with fail
  refine gen_world (F := fun W => Blk W w.heap.size 23 #[.int .i64 2, .int .i64 1, .int .i64 2, .int .i64 2, .int .i64 sh] ∧ Blk W w1.heap.size 48 #[fnV 43, fnV 44, fnV 45] ∧ Below w.heap.size w W) _ ⟨HP1.out.alloc _, Blk.new w1 _ _, bl HB1.out _⟩ ?_
  rintro W ⟨hP, hR, hB⟩
  have g0 := fun p : From W => (hP.keep p.below).cell 0
  have g1 := fun p : From W => (hP.keep p.below).cell 1
  have g2 := fun p : From W => (hP.keep p.below).cell 2
  have g3 := fun p : From W => (hP.keep p.below).cell 3
  have g4 := fun p : From W => (hP.keep p.below).cell 4
  have g5 := fun p : From W => (hR.keep p.below).cell 1
  refine wp_region_from (by kernel_rfl) (by kernel_rfl) ?_
  repeat (go_big_quiet_step ((go_at_call 44; exact calls_from (cg _))))
  refine wpQuiet_nil ?_
  intro _ hw'
  obtain ⟨p, rfl⟩ := hw'
  have HP3 := Lib.hid (hP.keep p.below)
  have HR3 := Lib.hid (hR.keep p.below)
  have HB3 := Lib.hid (bt hB p.below)
  generalize p.W = w3 at HP3 HR3 HB3 ⊢
  clear g0 g1 g2 g3 g4 g5 hP hR hB p HP1 HB1
  generalize w1.heap.size = g at HR3 ⊢
  rw [HKK.out]
  go_wp2_with fail
  go_loopw [7, 36] (fun v i wr => ∃ (k : Nat), k ≤ N ∧ i = .int .i64 k ∧ w3.heap.size ≤ wr.heap.size ∧ Hid (wr.ownsRow w3.heap.size 37 5 v (progL ⟨2, 1, 2, 2, sh⟩ n k).length (flatL encSl (progL ⟨2, 1, 2, 2, sh⟩ n k))) ∧ Hid (Below w3.heap.size w3 wr))
    (fun _ i _ => N - (intOf i).toNat)
  case atStart => exact ⟨0, Nat.zero_le _, rfl, Nat.le_refl _, World.ownsRow_nil _ _ _ _, Below.refl _ _⟩
  case round =>
    obtain ⟨k, hk, rfl, hsz, hown, hnx⟩ := hrel
    by_cases hlt : k < N
    · have cA := fun W => (CA.out k hlt W).elim (fun h => absurd h.1 (by omega)) (fun h => h.2)
      have hlt' : (k : Int) < (N : Int) := by omega
      have PR := Lib.hid (progL_succ ⟨2, 1, 2, 2, sh⟩ n k)
      have PL := Lib.hid (progL_length ⟨2, 1, 2, 2, sh⟩ n k)
      have hpr : progAt ⟨2, 1, 2, 2, sh⟩ n k = if n ≤ (k : Int) then { atP ⟨2, 1, 2, 2, sh⟩ n k with page := -1 } else atP ⟨2, 1, 2, 2, sh⟩ n k := rfl
      obtain ⟨⟨a0, a1, a2, a3, a4⟩, ha⟩ : ∃ x, atP ⟨2, 1, 2, 2, sh⟩ n k = x := ⟨_, rfl⟩
      rw [ha] at cA hpr
      clear ha
      obtain ⟨p0, p1, p2, p3, p4⟩ := (HP3.out.keep hnx.out).facts5
      have r2 := (HR3.out.keep hnx.out).cell 2
      have hzk : (progL ⟨2, 1, 2, 2, sh⟩ n k).length = k := progL_length _ _ _
      by_cases hge : n ≤ (k : Int)
      · rw [if_pos hge] at hpr
        simp only at hpr
        have E := Lib.hid hpr
        have hb1 : k + 1 ≤ maxLen := by unfold maxLen; omega
        have hb2 : (k + 1) * 40 ≤ 140737488355328 := by omega
        have HZ := Lib.hid hzk
        clear hpr hzk
        go_wp2_with fail
        refine (cA _).mono ?_
        rintro e w4 ⟨rfl, hb4⟩
        have O4 := Lib.hid (ob hown.out hb4)
        have B4 := Lib.hid (hnx.out.trans (hb4.mono hsz))
        have hz4 : wr.heap.size ≤ w4.heap.size := hb4.size
        clear hb4 p0 p1 p2 p3 p4 r2
        have O5 : Hid (((w4.alloc (.cells #[.int .i64 a0, .int .i64 a1, .int .i64 a2, .int .i64 a3, .int .i64 (-1)] 37)).alloc (.cells #[.int .i64 a0, .int .i64 a1, .int .i64 a2, .int .i64 a3, .int .i64 (-1)] 37)).ownsRow w3.heap.size 37 5 u7 k (flatL encSl (progL ⟨2, 1, 2, 2, sh⟩ n k))) := by
          have := (O4.out.alloc (.cells #[.int .i64 a0, .int .i64 a1, .int .i64 a2, .int .i64 a3, .int .i64 (-1)] 37)).alloc (.cells #[.int .i64 a0, .int .i64 a1, .int .i64 a2, .int .i64 a3, .int .i64 (-1)] 37)
          rw [HZ.out] at this
          exact this
        go_wp2_with (at_builtin; refine wpList_append_own _ rfl _ _ 28 rfl w3.heap.size 37 i0 (.agg #[.int .i64 0, .int .i64 0, .int .i64 0, .int .i64 0, .int .i64 0]) 5 40 Try.underlying28 hi hz0 hz1 hz2 rfl (by decide) _ _ _ rfl O5.out ⟨w4.heap.size + 1, 0, none⟩ 1 1 [.int .i64 a0, .int .i64 a1, .int .i64 a2, .int .i64 a3, .int .i64 (-1)] rfl ?c0 ?c1 ?c2 ?c3 ?c4 ?c5 ?_)
        case c0 => rfl
        case c1 => have := cells_new (w4.alloc (.cells #[.int .i64 a0, .int .i64 a1, .int .i64 a2, .int .i64 a3, .int .i64 (-1)] 37)) 37 [.int .i64 a0, .int .i64 a1, .int .i64 a2, .int .i64 a3, .int .i64 (-1)]; simpa using this
        case c2 => intro u hu; simp at hu; rcases hu with rfl | rfl | rfl | rfl | rfl <;> rfl
        case c3 => exact hb1
        case c4 => exact hb2
        case c5 => simp; omega
        intro v5 w5 hown5 hgrow5 _
        have O6 : Hid (w5.ownsRow w3.heap.size 37 5 v5 (progL ⟨2, 1, 2, 2, sh⟩ n (k + 1)).length (flatL encSl (progL ⟨2, 1, 2, 2, sh⟩ n (k + 1)))) := by
          show World.ownsRow _ _ _ _ _ _ _
          rw [progL_length, PR.out, E.out, flatL_append, flatL_one_]; exact hown5
        have B6 : Hid (Below w3.heap.size w3 w5) := (((B4.out.alloc (by omega) _).alloc (by simp; omega) _).grown hgrow5 (by simp; omega) (fun j hj => (O4.out.lt j hj).1))
        clear hown5 hgrow5
        go_wp2_with fail
        go_roundw
        case rel => exact ⟨k + 1, by omega, by go_num, B6.out.size, O6.out, B6.out⟩
        case measure => simp [intOf]; omega
      · rw [if_neg hge] at hpr
        have E := Lib.hid hpr
        have hb1 : k + 1 ≤ maxLen := by unfold maxLen; omega
        have hb2 : (k + 1) * 40 ≤ 140737488355328 := by omega
        have HZ := Lib.hid hzk
        clear hpr hzk
        go_wp2_with fail
        refine (cA _).mono ?_
        rintro e w4 ⟨rfl, hb4⟩
        have O4 := Lib.hid (ob hown.out hb4)
        have B4 := Lib.hid (hnx.out.trans (hb4.mono hsz))
        have hz4 : wr.heap.size ≤ w4.heap.size := hb4.size
        clear hb4 p0 p1 p2 p3 p4 r2
        have O5 : Hid (((w4.alloc (.cells #[.int .i64 a0, .int .i64 a1, .int .i64 a2, .int .i64 a3, .int .i64 a4] 37)).alloc (.cells #[.int .i64 a0, .int .i64 a1, .int .i64 a2, .int .i64 a3, .int .i64 a4] 37)).ownsRow w3.heap.size 37 5 u7 k (flatL encSl (progL ⟨2, 1, 2, 2, sh⟩ n k))) := by
          have := (O4.out.alloc (.cells #[.int .i64 a0, .int .i64 a1, .int .i64 a2, .int .i64 a3, .int .i64 a4] 37)).alloc (.cells #[.int .i64 a0, .int .i64 a1, .int .i64 a2, .int .i64 a3, .int .i64 a4] 37)
          rw [HZ.out] at this
          exact this
        go_wp2_with (at_builtin; refine wpList_append_own _ rfl _ _ 28 rfl w3.heap.size 37 i0 (.agg #[.int .i64 0, .int .i64 0, .int .i64 0, .int .i64 0, .int .i64 0]) 5 40 Try.underlying28 hi hz0 hz1 hz2 rfl (by decide) _ _ _ rfl O5.out ⟨w4.heap.size + 1, 0, none⟩ 1 1 [.int .i64 a0, .int .i64 a1, .int .i64 a2, .int .i64 a3, .int .i64 a4] rfl ?d0 ?d1 ?d2 ?d3 ?d4 ?d5 ?_)
        case d0 => rfl
        case d1 => have := cells_new (w4.alloc (.cells #[.int .i64 a0, .int .i64 a1, .int .i64 a2, .int .i64 a3, .int .i64 a4] 37)) 37 [.int .i64 a0, .int .i64 a1, .int .i64 a2, .int .i64 a3, .int .i64 a4]; simpa using this
        case d2 => intro u hu; simp at hu; rcases hu with rfl | rfl | rfl | rfl | rfl <;> rfl
        case d3 => exact hb1
        case d4 => exact hb2
        case d5 => simp; omega
        intro v5 w5 hown5 hgrow5 _
        have O6 : Hid (w5.ownsRow w3.heap.size 37 5 v5 (progL ⟨2, 1, 2, 2, sh⟩ n (k + 1)).length (flatL encSl (progL ⟨2, 1, 2, 2, sh⟩ n (k + 1)))) := by
          show World.ownsRow _ _ _ _ _ _ _
          rw [progL_length, PR.out, E.out, flatL_append, flatL_one_]; exact hown5
        have B6 : Hid (Below w3.heap.size w3 w5) := (((B4.out.alloc (by omega) _).alloc (by simp; omega) _).grown hgrow5 (by simp; omega) (fun j hj => (O4.out.lt j hj).1))
        clear hown5 hgrow5
        go_wp2_with fail
        go_roundw
        case rel => exact ⟨k + 1, by omega, by go_num, B6.out.size, O6.out, B6.out⟩
        case measure => simp [intOf]; omega
    · have e : k = N := by omega
      have HKN := Lib.hid e
      have hlt' : ¬ (k : Int) < (N : Int) := by omega
      have hzk : (progL ⟨2, 1, 2, 2, sh⟩ n k).length = k := progL_length _ _ _
      have cs := sort_row w3.heap.size u7 (progL ⟨2, 1, 2, 2, sh⟩ n k) wr hown.out hsz (by omega)
      have CS := Lib.hid cs
      clear cs e hzk
      go_wp2_with fail
      refine CS.out.mono ?_
      rintro e w5 ⟨rfl, d, hd1, hd2, ⟨A, cp, hv, hl1, hl2, hA⟩, hb5⟩
      have hd : d = allP ⟨2, 1, 2, 2, sh⟩ n := HALL.out d HM.out f1 f2 (by have := hd1; rw [HKN.out] at this; exact this) hd2
      have hl := hd1.length_eq
      subst hv
      have HA := Lib.hid hA
      have HD := Lib.hid hd
      have HL := Lib.hid hl
      have HL1 := Lib.hid hl1
      have HL2 := Lib.hid hl2
      have HB5 := Lib.hid (bt HB3.out (hnx.out.trans hb5))
      clear hd1 hd2 hA hb5 hd hl hl1 hl2
      go_wp2_with fail
      go_ret
      refine ⟨A, cp, ?_, by rw [← HD.out, HL.out]; exact HL1.out, HL2.out, by rw [← HD.out]; exact HA.out, HB5.out⟩
      rw [← HD.out, HL.out]
      rfl

/-- What is told of all slots: a slice that reads as these. -/
def GivesAll (p : Plan) (n : Int) (w : World) (e : Ending) (w' : World) : Prop := ∃ A cp, e = .returned (.slice A (allP p n).length cp) ∧ (allP p n).length ≤ cp ∧ cp ≤ maxLen ∧ RowAt encSl 5 w' A (allP p n) ∧ Below w.heap.size w w'

theorem allP_no (p : Plan) (n : Int) (h : ¬ (mayP p = true ∧ 0 ≤ n ∧ n ≤ 999999)) : allP p n = [] := by unfold allP; rw [if_neg h]

set_option maxHeartbeats 4000000 in
theorem all_any (kd r c s sh n : Int) (w : World) : Calls Try.prog 14 #[.agg #[.int .i64 kd, .int .i64 r, .int .i64 c, .int .i64 s, .int .i64 sh], .int .i64 n] w (GivesAll ⟨kd, r, c, s, sh⟩ n w) := by
  have co := fun W => of_any kd r c s sh W
  cases hm : mayP ⟨kd, r, c, s, sh⟩ with
  | false =>
    have E := Lib.hid (allP_no ⟨kd, r, c, s, sh⟩ n (by rw [hm]; simp))
    rw [hm] at co
    clear hm
    rcases way3 kd with h | h | h
    all_goals
      rw [h] at co
      clear h
      go_enter Try.func14, Try.ntmps14
      go_wp2_with fail
      refine (co _).mono ?_
      rintro e w1 ⟨rfl, hb⟩
      go_wp2_with fail
      go_ret
      unfold GivesAll
      rw [E.out]
      exact ⟨none, 0, rfl, Nat.le_refl _, Nat.zero_le _, RowAt.nil _ _, bl (bt (bl (Below.refl _ _) _) hb) _⟩
  | true =>
    by_cases hf : n < 0 ∨ 999999 < n
    · have E := Lib.hid (allP_no ⟨kd, r, c, s, sh⟩ n (by omega))
      rw [hm] at co
      have cf := fun W => few_no n W hf
      clear hm hf
      rcases way3 kd with h | h | h
      all_goals
        rw [h] at co
        clear h
        go_enter Try.func14, Try.ntmps14
        go_wp2_with fail
        refine (co _).mono ?_
        rintro e w1 ⟨rfl, hb⟩
        go_wp2_with fail
        refine (cf _).mono ?_
        rintro e w' ⟨rfl, rfl⟩
        go_wp2_with fail
        go_ret
        unfold GivesAll
        rw [E.out]
        exact ⟨none, 0, rfl, Nat.le_refl _, Nat.zero_le _, RowAt.nil _ _, bl (bt (bl (Below.refl _ _) _) hb) _⟩
    · rcases may_cases _ hm with ⟨rfl, h1, h2, h3, h4, h5, h6, rfl⟩ | ⟨rfl, h1, h2, rfl, rfl, rfl⟩
      · exact all_grid r c s n w h1 h2 h3 h4 h5 h6 (by omega) (by omega)
      · exact all_book sh n w h1 h2 (by omega) (by omega)

end Go.Proofs.Ythiplocjiamahaa
