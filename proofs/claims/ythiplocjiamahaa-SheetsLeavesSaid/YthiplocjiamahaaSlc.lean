/-
  gatefoldlaw33.SheetsLeaves, walked: it returns true for books of any size, any pages; below the heap's size at the call nothing turns.
-/
import Derived.Test.YthiplocjiamahaaShy
import Derived.Test.YthiplocjiamahaaShz
import Derived.Deep.RegionHeld3
namespace Go.Proofs.Ythiplocjiamahaa
open Go.RowKit Go.Proofs.Shs

theorem at_book (s N q : Nat) : atP ⟨2, 1, 2, 2, s⟩ N q = bkAt s N q := by unfold atP; rw [if_neg (by simp)]

set_option maxRecDepth 100000 in
set_option maxHeartbeats 2000000 in
theorem leaves_far (size n : Int) (w : World) (h : size < 1 ∨ 64 < size) :
    Calls Try.prog 7 #[.int .i64 size, .int .i64 n] w fun e w' => e = .returned (.bool true) ∧ Below w.heap.size w w' := by
  have c1 := fun W => may_any 2 1 2 2 size W
  rw [show mayP ⟨2, 1, 2, 2, size⟩ = false by unfold mayP gridB bookB; simp; omega] at c1
  clear h
  go_enter Try.func7, Try.ntmps7
  go_wp2_with fail
  refine (lbooks_any _ _).mono ?_
  rintro e w1 ⟨rfl, hb⟩
  go_wp2_with fail
  all_goals
    refine (c1 _).mono ?_
    rintro e w2 ⟨rfl, hb2⟩
    go_wp2_with fail
    refine (awake_any _).mono ?_
    rintro e w3 ⟨rfl, hb3⟩
    go_wp2_with fail
    go_ret
    exact ⟨rfl, bt (bt (bl (bt (Below.refl _ _) hb) _) hb2) hb3⟩

set_option linter.unusedSimpArgs false in
set_option maxRecDepth 100000 in
set_option maxHeartbeats 16000000 in
theorem leaves_near (s : Nat) (n : Int) (w : World) (h1 : 1 ≤ s) (h2 : s ≤ 64) :
    Calls Try.prog 7 #[.int .i64 s, .int .i64 n] w fun e w' => e = .returned (.bool true) ∧ Below w.heap.size w w' := by
  have c1 := fun W => may_any 2 1 2 2 s W
  have hm : mayP ⟨2, 1, 2, 2, s⟩ = true := by unfold mayP gridB bookB; simp; omega
  rw [hm] at c1
  have HM := Lib.hid hm
  clear hm
  go_enter Try.func7, Try.ntmps7
  go_wp2_with fail
  refine (lbooks_any _ _).mono ?_
  rintro e w1 ⟨rfl, hb⟩
  go_wp2_with fail
  obtain ⟨N, hN, hN6⟩ : ∃ N : Nat, max 0 (min n 600) = (N : Int) ∧ N ≤ 600 := ⟨(max 0 (min n 600)).toNat, by omega, by omega⟩
  rw [hN]
  clear hN
  have HP1 := Lib.hid (Blk.new w1 23 #[.int .i64 2, .int .i64 1, .int .i64 2, .int .i64 2, .int .i64 s])
  refine (c1 _).mono ?_
  rintro e w2 ⟨rfl, hb2⟩
  have HP2 := Lib.hid (HP1.out.keep hb2)
  have B2 := Lib.hid (bt (bl (bt (Below.refl _ _) hb) _) hb2)
  clear hb hb2 HP1
  generalize w1.heap.size = g at HP2 ⊢
  go_wp2_with fail
  -- the leaves
  go_loopw [6] (fun i wr => ∃ j : Nat, i = .int .i64 j ∧ j % 2 = 0 ∧ j ≤ 602 ∧ w2.heap.size ≤ wr.heap.size ∧ Hid (Below w2.heap.size w2 wr)) (fun i _ => 700 - (intOf i).toNat)
  case atStart => exact ⟨0, rfl, rfl, by omega, Nat.le_refl _, Below.refl _ _⟩
  case round =>
    obtain ⟨j, rfl, hj2, hjb, hsz, hnx⟩ := hrel
    have HJ := Lib.hid hj2
    clear hj2
    have hP := HP2.out.keep hnx.out
    obtain ⟨p0, p1, p2, p3, p4⟩ := hP.facts5
    have hzg := hP.lt
    by_cases hlt : j + 1 < N
    · have hlt' : (j : Int) + 1 < (N : Int) := by omega
      have ca := fun W => at_yes 2 1 2 2 s N j W HM.out (by omega) (by omega) (by omega) (by omega)
      have cb := fun W => at_yes 2 1 2 2 s N ((j + 1 : Nat) : Int) W HM.out (by omega) (by omega) (by omega) (by omega)
      obtain ⟨l1, l2, l3⟩ := leaf_at s N j h1 HJ.out hlt
      rw [at_book] at ca cb
      generalize bkAt s N j = x at ca l1 l2 l3
      generalize bkAt s N ((j + 1 : Nat) : Int) = y at cb l1 l2 l3
      obtain ⟨a0, a1, a2, a3, a4⟩ := x
      obtain ⟨b0, b1, b2, b3, b4⟩ := y
      simp only at l1 l2 l3
      subst l1
      have l2' : (a1 == b1) = false := by simpa using l2
      have l3' : (a3 == b3) = false := by simpa using l3
      rw [show ((j + 1 : Nat) : Int) = (j : Int) + 1 by omega] at cb
      clear l2 l3
      go_wp2_with fail
      refine (ca _).mono ?_
      rintro e w3 ⟨rfl, hb3⟩
      have hX3 := (Blk.new w3 37 #[.int .i64 a0, .int .i64 a1, .int .i64 a2, .int .i64 a3, .int .i64 a4])
      have hP3 := (hP.keep hb3)
      have hzg3 : g < w3.heap.size := hP3.lt
      have B3 := Lib.hid (hnx.out.trans (hb3.mono hsz))
      clear p0 p1 p2 p3 p4 hb3 ca
      obtain ⟨p0, p1, p2, p3, p4⟩ := hP3.facts5
      go_wp2_with fail
      refine (cb _).mono ?_
      rintro e w4 ⟨rfl, hb4⟩
      have hX4 := hX3.keep hb4
      have hzx : w3.heap.size < w4.heap.size := hX4.lt
      have B4 := Lib.hid ((B3.out.alloc B3.out.size _).trans (hb4.mono (by have := B3.out.size; simp; omega)))
      clear p0 p1 p2 p3 p4 hb4 cb hP3 hX3
      obtain ⟨x0, x1, x2, x3, x4⟩ := hX4.facts5
      have hj3 : Hid ((j + 2) % 2 = 0) := by show _ = _; have := HJ.out; omega
      go_wp2_with fail
      go_roundw
      case rel => exact ⟨j + 2, by go_num, hj3.out, by omega, by have := B4.out.size; simp; omega, B4.out.alloc B4.out.size _⟩
      case measure => simp [intOf]; omega
    · have hlt' : ¬ (j : Int) + 1 < (N : Int) := by omega
      have cl := fun W => all_any 2 1 2 2 s N W
      unfold GivesAll at cl
      have hLb := allP_bl s N h1 h2 (by omega)
      have hll := blL_length s ((N + 3) / 4) N (4 * ((N + 3) / 4))
      rw [← hLb] at hll
      have hget : ∀ i, i < 4 * ((N + 3) / 4) → (allP ⟨2, 1, 2, 2, s⟩ N)[i]? = some (bookAt s ((N + 3) / 4) N i) := fun i hi => by
        rw [hLb]; unfold blL; rw [List.getElem?_map, List.getElem?_range hi]; rfl
      generalize allP ⟨2, 1, 2, 2, s⟩ N = L at cl hll hget
      have CL := Lib.hid cl
      have HLL := Lib.hid hll
      have HG := Lib.hid hget
      have hlb : L.length ≤ 700 := by omega
      have W2 := Lib.hid (bt B2.out hnx.out)
      clear cl hLb hll hget
      go_wp2_with fail
      refine (CL.out _).mono ?_
      rintro e w5 ⟨A, cp, rfl, _, _, hA, hb5⟩
      have HA := Lib.hid hA
      have B5 := Lib.hid (bt W2.out hb5)
      clear hA hb5 p0 p1 p2 p3 p4 CL hP
      go_wp2_with fail
      go_loopw [12] (fun i wr => ∃ j : Nat, i = .int .i64 j ∧ Hid (j % 2 = 0) ∧ j ≤ 702 ∧ w5.heap.size ≤ wr.heap.size ∧ Hid (Below w5.heap.size w5 wr)) (fun i _ => 800 - (intOf i).toNat)
      case atStart => exact ⟨0, rfl, rfl, by omega, Nat.le_refl _, Below.refl _ _⟩
      case round =>
        obtain ⟨j, rfl, HJ, hjb, hsz, hnx⟩ := hrel
        by_cases hlt : j + 1 < L.length
        · have hlt' : (j : Int) + 1 < (L.length : Int) := by omega
          have hjl : (j : Int) < (L.length : Int) := by omega
          obtain ⟨t, d, f, k, X, Y, ex, ey, hk1, hk2, hfN, hsum, hmod, hfX, hd⟩ := side_two s N j h1 HJ.out (by rw [← HLL.out]; exact hlt)
          have gx := HG.out j (by rw [← HLL.out]; omega)
          have gy := HG.out (j + 1) (by rw [← HLL.out]; omega)
          rw [ex] at gx
          rw [ey] at gy
          obtain ⟨b, off, rfl, hblt, c0, c1', c2, c3, c4⟩ := (HA.out.below hnx.out).slot gx
          obtain ⟨_, _, ee, _, d0, d1', d2, d3, d4⟩ := (HA.out.below hnx.out).slot gy
          cases ee
          have ne1 : wr.heap.size ≠ b := by omega
          have ne2 : wr.heap.size + 1 ≠ b := by omega
          have hj0 : (0 : Int) ≤ (j : Int) + 1 := by omega
          have hWR := Lib.hid hnx.out
          have HS : Hid (k ≤ s ∧ k = min s ((N - f + 3) / 4) ∧ X + Y = 2 * f + 4 * k - 1 ∧ (d = 1 ∧ Y ≤ X ∨ d = 2 ∧ X ≤ Y)) := ⟨hk1, hk2, hsum, hd⟩
          have HF : Hid ((X : Int) - (X : Int) % (4 * (s : Int)) = (f : Int)) := by
            show _ = _
            have : (X : Int) % (4 * (s : Int)) = ((X % (4 * s) : Nat) : Int) := by simp
            rw [this, hmod]; omega
          have hXm : (X : Int) % (4 * (s : Int)) = ((X % (4 * s) : Nat) : Int) := by simp
          have hXm0 : 0 ≤ (X : Int) % (4 * (s : Int)) := by omega
          have hXm1 : (X : Int) % (4 * (s : Int)) ≤ (X : Int) := by have := Nat.mod_le X (4 * s); omega
          clear hXm
          have HJ' := HJ
          clear gx gy HJ hd hmod hsum hk1 hk2
          go_wp2_with fail
          have iw := IntWalk.i64_in ((j : Int) + 1) (by omega)
          have it : ((j : Int) + 1).toNat = j + 1 := by omega
          go_region_held3 (fun w' => w'.cell? ⟨b, off + j * 5, none⟩ = some (.int .i64 t) ∧ w'.cell? ⟨b, off + j * 5 + 1, none⟩ = some (.int .i64 d) ∧ w'.cell? ⟨b, off + j * 5 + 2, none⟩ = some (.int .i64 0) ∧ w'.cell? ⟨b, off + j * 5 + 3, none⟩ = some (.int .i64 0) ∧ w'.cell? ⟨b, off + j * 5 + 4, none⟩ = some (.int .i64 (pg N X)) ∧ w'.cell? ⟨b, off + (j + 1) * 5, none⟩ = some (.int .i64 t) ∧ w'.cell? ⟨b, off + (j + 1) * 5 + 1, none⟩ = some (.int .i64 d) ∧ w'.cell? ⟨b, off + (j + 1) * 5 + 2, none⟩ = some (.int .i64 0) ∧ w'.cell? ⟨b, off + (j + 1) * 5 + 3, none⟩ = some (.int .i64 1) ∧ w'.cell? ⟨b, off + (j + 1) * 5 + 4, none⟩ = some (.int .i64 (pg N Y)))
            (go_keep) (fail)
          all_goals clear iw it
          all_goals
            first
              | (refine gen_world (F := fun Z => Blk Z wr.heap.size 37 #[.int .i64 t, .int .i64 d, .int .i64 0, .int .i64 0, .int .i64 (pg N X)] ∧ Blk Z (wr.heap.size + 1) 37 #[.int .i64 t, .int .i64 d, .int .i64 0, .int .i64 1, .int .i64 (pg N Y)] ∧ Below wr.heap.size wr Z) (G := Exit.then _ _ _ _) _ ⟨((Blk.new wr 37 #[.int .i64 t, .int .i64 d, .int .i64 0, .int .i64 0, .int .i64 (pg N X)]).alloc (.cells #[.int .i64 t, .int .i64 d, .int .i64 0, .int .i64 1, .int .i64 (pg N Y)] 37)).drew, by have := (Blk.new (wr.alloc (.cells #[.int .i64 t, .int .i64 d, .int .i64 0, .int .i64 0, .int .i64 (pg N X)] 37)) 37 #[.int .i64 t, .int .i64 d, .int .i64 0, .int .i64 1, .int .i64 (pg N Y)]).drew; simpa using this, bd (bl (bl (Below.refl _ _) _) _)⟩ ?_
                 rintro Z ⟨hx, hy, hZ⟩
                 have HZ := Lib.hid hZ
                 clear hZ c0 c1' c2 c3 c4 d0 d1' d2 d3 d4 ne1 ne2
                 generalize wr.heap.size + 1 = gy at hy ⊢
                 have hszz : w5.heap.size ≤ wr.heap.size := hsz
                 generalize hE : wr.heap.size = gx at hx ⊢
                 clear hE)
              | (refine gen_world (F := fun Z => Blk Z (wr.heap.size + 1) 37 #[.int .i64 t, .int .i64 d, .int .i64 0, .int .i64 0, .int .i64 (pg N X)] ∧ Blk Z wr.heap.size 37 #[.int .i64 t, .int .i64 d, .int .i64 0, .int .i64 1, .int .i64 (pg N Y)] ∧ Below wr.heap.size wr Z) (G := Exit.then _ _ _ _) _ ⟨by have := (Blk.new (wr.alloc (.cells #[.int .i64 t, .int .i64 d, .int .i64 0, .int .i64 1, .int .i64 (pg N Y)] 37)) 37 #[.int .i64 t, .int .i64 d, .int .i64 0, .int .i64 0, .int .i64 (pg N X)]).drew; simpa using this, ((Blk.new wr 37 #[.int .i64 t, .int .i64 d, .int .i64 0, .int .i64 1, .int .i64 (pg N Y)]).alloc (.cells #[.int .i64 t, .int .i64 d, .int .i64 0, .int .i64 0, .int .i64 (pg N X)] 37)).drew, bd (bl (bl (Below.refl _ _) _) _)⟩ ?_
                 rintro Z ⟨hx, hy, hZ⟩
                 have HZ := Lib.hid hZ
                 clear hZ c0 c1' c2 c3 c4 d0 d1' d2 d3 d4 ne1 ne2
                 generalize wr.heap.size + 1 = gx at hx ⊢
                 have hszz : w5.heap.size ≤ wr.heap.size := hsz
                 generalize hE : wr.heap.size = gy at hy ⊢
                 clear hE)
          all_goals
            have BZ := Lib.hid (hWR.out.trans (HZ.out.mono hszz))
            have hzZ : w5.heap.size ≤ Z.heap.size := BZ.out.size
            have HJ2 : Hid ((j + 2) % 2 = 0) := by show _ = _; have := HJ'.out; omega
            by_cases hXN : X < N
            · rw [show pg (N : Int) (X : Int) = (X : Int) by unfold pg; rw [if_pos (by omega)]] at hx
              by_cases hYN : Y < N
              · rw [show pg (N : Int) (Y : Int) = (Y : Int) by unfold pg; rw [if_pos (by omega)]] at hy
                have HX := Lib.hid hx
                have HY := Lib.hid hy
                obtain ⟨x0, x1, x2, x3, x4⟩ := hx.facts5
                obtain ⟨y0, y1, y2, y3, y4⟩ := hy.facts5
                have hdn : ((d : Int) != (d : Int)) = false := by simp
                clear hx hy
                go_wp2_with fail
                have g4 := fun p : From Z => (HX.out.keep p.below).cell 4
                refine wp_region_from (by kernel_rfl) (by kernel_rfl) ?_
                repeat (go_big_quiet_step (fail))
                refine wpQuiet_nil ?_
                intro _ hw'
                obtain ⟨p, rfl⟩ := hw'
                have HX2 := Lib.hid (HX.out.keep p.below)
                have HY2 := Lib.hid (HY.out.keep p.below)
                have B8 := Lib.hid (bt BZ.out p.below)
                generalize p.W = Z2 at HX2 HY2 B8 ⊢
                clear g4 p x0 x1 x2 x3 x4 y0 y1 y2 y3 y4 HX HY
                rw [HF.out]
                go_wp2_with fail
                go_loopw [16] (fun i wr => ∃ q : Nat, i = .int .i64 q ∧ q ≤ k ∧ Z2 = wr) (fun i _ => s - (intOf i).toNat)
                case atStart => exact ⟨0, rfl, by omega, rfl⟩
                case round =>
                  obtain ⟨q, rfl, hqk, rfl⟩ := hrel
                  obtain ⟨hk1, hk2, hsum, hd⟩ := HS.out
                  by_cases hq1 : q < k
                  · have hq2 : (q : Int) < (s : Int) := by omega
                    have hq3 : (f : Int) + 4 * (q : Int) < (N : Int) := by omega
                    clear hk2 hsum hd
                    go_wp2_with fail
                    go_roundw
                    case rel => exact ⟨q + 1, by go_num, by omega, by first | rfl | trivial⟩
                    case measure => simp [intOf]; omega
                  · obtain rfl : q = k := by omega
                    have hxy : (X : Int) + (Y : Int) = 2 * (f : Int) + 4 * (q : Int) - 1 := by omega
                    have hne : (((X : Int) + (Y : Int)) != 2 * (f : Int) + 4 * (q : Int) - 1) = false := by rw [hxy]; simp
                    obtain ⟨x0, x1, x2, x3, x4⟩ := HX2.out.facts5
                    obtain ⟨y0, y1, y2, y3, y4⟩ := HY2.out.facts5
                    have hqs : (q : Int) < (s : Int) ∧ ¬ (f : Int) + 4 * (q : Int) < (N : Int) ∨ ¬ (q : Int) < (s : Int) := by omega
                    have hd' : (((d : Int) == 1) = true ∧ ((d : Int) == 2) = false ∧ ¬ (X : Int) < (Y : Int)) ∨ (((d : Int) == 1) = false ∧ ((d : Int) == 2) = true ∧ ¬ (Y : Int) < (X : Int)) := by
                      rcases hd with ⟨rfl, h⟩ | ⟨rfl, h⟩
                      · left; refine ⟨by simp, by simp, by omega⟩
                      · right; refine ⟨by simp, by simp, by omega⟩
                    have hqb : (q : Int) ≤ 64 := by omega
                    clear hxy hk1 hk2 hsum hd hqk hq1
                    rcases hqs with ⟨q1, q2⟩ | q1
                    all_goals
                      rcases hd' with ⟨e1, e2, e3⟩ | ⟨e1, e2, e3⟩
                      all_goals
                        go_wp2_with fail
                        go_roundw
                        case rel => exact ⟨j + 2, by go_num, HJ2.out, by omega, B8.out.size, B8.out⟩
                        case measure => simp [intOf]; omega
              · rw [show pg (N : Int) (Y : Int) = -1 by unfold pg; rw [if_neg (by omega)]] at hy
                obtain ⟨x0, x1, x2, x3, x4⟩ := hx.facts5
                obtain ⟨y0, y1, y2, y3, y4⟩ := hy.facts5
                have hdn : ((d : Int) != (d : Int)) = false := by simp
                go_wp2_with fail
                go_roundw
                case rel => exact ⟨j + 2, by go_num, HJ2.out, by omega, hzZ, BZ.out⟩
                case measure => simp [intOf]; omega
            · rw [show pg (N : Int) (X : Int) = -1 by unfold pg; rw [if_neg (by omega)]] at hx
              obtain ⟨x0, x1, x2, x3, x4⟩ := hx.facts5
              obtain ⟨y0, y1, y2, y3, y4⟩ := hy.facts5
              have hdn : ((d : Int) != (d : Int)) = false := by simp
              go_wp2_with fail
              go_roundw
              case rel => exact ⟨j + 2, by go_num, HJ2.out, by omega, hzZ, BZ.out⟩
              case measure => simp [intOf]; omega
        · have hlt' : ¬ (j : Int) + 1 < (L.length : Int) := by omega
          go_wp2_with fail
          refine (awake_any _).mono ?_
          rintro e w9 ⟨rfl, hb9⟩
          go_wp2_with fail
          go_ret
          exact ⟨rfl, bt (B5.out.trans (hnx.out.mono B5.out.size)) hb9⟩

end Go.Proofs.Ythiplocjiamahaa
