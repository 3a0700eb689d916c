/-
  gatefoldlaw33.SheetsOnce, walked where the plan may be and there is a page.
-/
import Derived.Test.YthiplocjiamahaaSlk
import Derived.Deep.Cut
import Derived.Deep.CutRange
import Derived.Test.YthiplocjiamahaaSle
namespace Go.Proofs.Ythiplocjiamahaa
open Go.RowKit Go.Proofs.Shs Go.Maps

set_option linter.unusedSimpArgs false in
set_option maxRecDepth 100000 in
set_option maxHeartbeats 32000000 in
theorem once_near (kd r c s sh n : Int) (N K : Nat) (L : List Slot) (w : World) (hm : mayP ⟨kd, r, c, s, sh⟩ = true) (hK : cntP ⟨kd, r, c, s, sh⟩ N = (K : Int)) (hL : allP ⟨kd, r, c, s, sh⟩ N = L) (F : OnceF kd r c s sh N K L) (hN : min n 600 = (N : Int)) (h1 : 1 ≤ N) (h2 : N ≤ 600) :
    Calls Try.prog 6 #[.agg #[.int .i64 kd, .int .i64 r, .int .i64 c, .int .i64 s, .int .i64 sh], .int .i64 n] w fun e w' => e = .returned (.bool true) ∧ Below w.heap.size w w' := by
  obtain ⟨i0, hi, hz0, hz1, hz2⟩ := info_parts Try.infoSlot
  have hb : 1 ≤ r ∧ r ≤ 16 ∧ 1 ≤ c ∧ c ≤ 16 ∧ 1 ≤ s ∧ s ≤ 2 := by rcases may_cases _ hm with h | h <;> simp only at h <;> omega
  obtain ⟨q1, q2, q3, q4, q5, q6⟩ := prod4 K r c s (by have := F.k1; omega) (by have := F.k2; omega) hb.1 hb.2.1 hb.2.2.1 hb.2.2.2.1 hb.2.2.2.2.1 hb.2.2.2.2.2
  have ca := fun W => all_any kd r c s sh N W
  unfold GivesAll at ca
  rw [hL] at ca
  have cm := fun W => may_any kd r c s sh W
  rw [hm] at cm
  have cc := fun W => count_any kd r c s sh N W
  rw [hK] at cc
  have CA := Lib.hid ca
  have FF := Lib.hid F
  have hlen : ((L.length : Int) != (K : Int) * r * c * s) = false := by simp [F.len]
  have hk1 := F.k1
  have hk2 := F.k2
  have hlo := F.lo
  have hhi := F.hi
  clear hm hK hL F ca hb
  go_enter Try.func6, Try.ntmps6
  go_wp2_with fail
  refine (CA.out _).mono ?_
  rintro e w1 ⟨A, cp, rfl, hl1, hl2, hA, hb1⟩
  have HP := Lib.hid ((Blk.new w 23 #[.int .i64 kd, .int .i64 r, .int .i64 c, .int .i64 s, .int .i64 sh]).keep hb1)
  have HB := Lib.hid (bt (bl (Below.refl _ _) _) hb1)
  have HA := Lib.hid hA
  have hz := HP.out.lt
  obtain ⟨p0, p1, p2, p3, p4⟩ := HP.out.facts5
  clear hb1 hA
  go_wp2_with fail
  refine (cm _).mono ?_
  rintro e w2 ⟨rfl, hb2⟩
  have HP2 := Lib.hid (HP.out.keep hb2)
  have HB2 := Lib.hid (bt HB.out hb2)
  have HA2 := Lib.hid (HA.out.below hb2)
  clear hb2 p0 p1 p2 p3 p4 hz HP HB HA
  have hz := HP2.out.lt
  obtain ⟨p0, p1, p2, p3, p4⟩ := HP2.out.facts5
  go_wp2_with fail
  refine (cc _).mono ?_
  rintro e w3 ⟨rfl, hb3⟩
  have HP3 := Lib.hid (HP2.out.keep hb3)
  have HB3 := Lib.hid (bt HB2.out hb3)
  have HA3 := Lib.hid (HA2.out.below hb3)
  clear hb3 p0 p1 p2 p3 p4 hz HP2 HB2 HA2
  have hz := HP3.out.lt
  obtain ⟨p0, p1, p2, p3, p4⟩ := HP3.out.facts5
  have mkN := run_make_row' (P := Try.prog) 31 3 (.int .i64 0) 8 Try.underlying31 (by kernel_rfl) rfl .i64 .i64 N (by omega) (by omega)
  have mkK := run_make_row' (P := Try.prog) 31 3 (.int .i64 0) 8 Try.underlying31 (by kernel_rfl) rfl .i64 .i64 K (by omega) (by omega)
  simp only [made_ints] at mkN mkK
  go_upto_region 8 with fail
  go_cut [7, 8] from 63 to 66 (fun s7 s8 wx => ∃ gs gf : Nat, s7 = .slice (some ⟨gs, 0, none⟩) N N ∧ s8 = .slice (some ⟨gf, 0, none⟩) K K ∧ w3.heap.size ≤ gs ∧ w3.heap.size ≤ gf ∧ gs ≠ gf ∧ Hid (Blk wx gs 3 (ints (List.replicate N 0))) ∧ Hid (Blk wx gf 3 (ints (List.replicate K 0))) ∧ Hid (Below w3.heap.size w3 wx))
  case first =>
    go_region
    all_goals (go_wp2_with fail)
    all_goals go_meet
    all_goals
      first
        | exact ⟨w3.heap.size, w3.heap.size + 1, rfl, rfl, Nat.le_refl _, by omega, by omega, ((Blk.new w3 3 (ints (List.replicate N 0))).alloc (.cells (ints (List.replicate K 0)) 3)).drew, by have := (Blk.new (w3.alloc (.cells (ints (List.replicate N 0)) 3)) 3 (ints (List.replicate K 0))).drew; show Blk _ _ _ _; simpa using this, bd (bl (bl (Below.refl _ _) _) _)⟩
        | exact ⟨w3.heap.size + 1, w3.heap.size, rfl, rfl, by omega, Nat.le_refl _, by omega, by have := (Blk.new (w3.alloc (.cells (ints (List.replicate K 0)) 3)) 3 (ints (List.replicate N 0))).drew; show Blk _ _ _ _; simpa using this, ((Blk.new w3 3 (ints (List.replicate K 0))).alloc (.cells (ints (List.replicate N 0)) 3)).drew, bd (bl (bl (Below.refl _ _) _) _)⟩
  case rest =>
    obtain ⟨gs, gf, rfl, rfl, hgs, hgf, hne, HS0, HF0, HZ⟩ := hcut
    have hne2 : gf ≠ gs := Ne.symm hne
    have hS := HS0.out
    have hF := HF0.out
    rw [← cntRow_nil N byPage] at hS
    rw [← cntRow_nil K bySheet] at hF
    have HS := Lib.hid hS
    have HF := Lib.hid hF
    clear mkN mkK p0 p1 p2 p3 p4 hS hF HS0 HF0
    go_wp2_with fail
    go_loopw [9] (fun i wr => ∃ k : Nat, k ≤ L.length ∧ i = .int .i64 k ∧ w3.heap.size ≤ wr.heap.size ∧ Hid (Blk wr gs 3 (ints (cntRow N byPage (L.take k)))) ∧ Hid (Blk wr gf 3 (ints (cntRow K bySheet (L.take k)))) ∧ Hid (Below w3.heap.size w3 wr)) (fun i _ => L.length - (intOf i).toNat)
    case atStart => exact ⟨0, Nat.zero_le _, rfl, HZ.out.size, HS.out, HF.out, HZ.out⟩
    case round =>
      obtain ⟨k, hk, rfl, hsz, HSk, HFk, HZk⟩ := hrel
      by_cases hlt : k < L.length
      · skip
        --L1
        have hlt' : (k : Int) < (L.length : Int) := by omega
        obtain ⟨⟨x0, x1, x2, x3, x4⟩, hx⟩ : ∃ x, L[k]? = some x := ⟨_, List.getElem?_eq_getElem hlt⟩
        have hxm : (⟨x0, x1, x2, x3, x4⟩ : Slot) ∈ L := List.mem_iff_getElem?.2 ⟨k, hx⟩
        have hbd := FF.out.bd _ hxm
        have hat := FF.out.at_ _ hxm
        simp only at hbd hat
        obtain ⟨t, ht⟩ : ∃ t : Nat, x0 = (t : Int) + 1 := ⟨(x0 - 1).toNat, by omega⟩
        subst ht
        obtain ⟨b0, b1, b2, b3, b4, b5, b6, b7, b8, b9⟩ := hbd
        have v0 : decide ((t : Int) + 1 < 1) = false := by rw [decide_eq_false_iff_not]; omega
        have v1 : decide ((K : Int) < (t : Int) + 1) = false := by rw [decide_eq_false_iff_not]; omega
        have v2 : decide (x4 < -1) = false := by rw [decide_eq_false_iff_not]; omega
        have v3 : decide ((N : Int) ≤ x4) = false := by rw [decide_eq_false_iff_not]; omega
        have v4 : decide (x1 < 1) = false := by rw [decide_eq_false_iff_not]; omega
        have v5 : decide (s < x1) = false := by rw [decide_eq_false_iff_not]; omega
        have v6 : decide (x2 < 0) = false := by rw [decide_eq_false_iff_not]; omega
        have v7 : decide (r ≤ x2) = false := by rw [decide_eq_false_iff_not]; omega
        have v8 : decide (x3 < 0) = false := by rw [decide_eq_false_iff_not]; omega
        have v9 : decide (c ≤ x3) = false := by rw [decide_eq_false_iff_not]; omega
        have ht1 : t < K := by omega
        have hx4 : x4 < (N : Int) := by omega
        have HX := Lib.hid hx
        have HAT := Lib.hid hat
        have HAk := Lib.hid (HA3.out.below HZk.out)
        have HPk := Lib.hid (HP3.out.keep HZk.out)
        have hzP : w.heap.size < wr.heap.size := HPk.out.lt
        obtain ⟨b, off, rfl, hblt, c0, c1, c2, c3, c4⟩ := HAk.out.slot hx
        have HBX := Lib.hid (Blk.new wr 37 #[.int .i64 ((t : Int) + 1), .int .i64 x1, .int .i64 x2, .int .i64 x3, .int .i64 x4])
        clear hx hxm hat b0 b1 b2 b3 b4 b5 b6 b7 b8 b9
        go_wp2_with fail
        refine gen_world (F := fun W => Blk W gs 3 (ints (cntRow N byPage (L.take k))) ∧ Blk W gf 3 (ints (cntRow K bySheet (L.take k))) ∧ Blk W wr.heap.size 37 #[.int .i64 ((t : Int) + 1), .int .i64 x1, .int .i64 x2, .int .i64 x3, .int .i64 x4] ∧ Blk W w.heap.size 23 #[.int .i64 kd, .int .i64 r, .int .i64 c, .int .i64 s, .int .i64 sh] ∧ RowAt encSl 5 W (some ⟨b, off, none⟩) L ∧ Below w3.heap.size w3 W) (G := fun W => Code.wp _ _ _ _ W) _ ⟨HSk.out.alloc _, HFk.out.alloc _, HBX.out, HPk.out.alloc _, HAk.out.below (bl (Below.refl _ _) _), HZk.out.alloc HZk.out.size _⟩ ?_
        rintro W ⟨hSW, hFW, hBW, hPW, hAW, hZW⟩
        have HSW := Lib.hid hSW
        have HFW := Lib.hid hFW
        have HBW := Lib.hid hBW
        have HPW := Lib.hid hPW
        have HZW := Lib.hid hZW
        obtain ⟨z0, z1, z2, z3, z4⟩ := hBW.facts5
        obtain ⟨p0, p1, p2, p3, p4⟩ := hPW.facts5
        have Z0 := fun p : From W => From.cell z0 p
        have Z1 := fun p : From W => From.cell z1 p
        have Z2 := fun p : From W => From.cell z2 p
        have Z3 := fun p : From W => From.cell z3 p
        have Z4 := fun p : From W => From.cell z4 p
        have P1 := fun p : From W => From.cell p1 p
        have P2 := fun p : From W => From.cell p2 p
        have P3 := fun p : From W => From.cell p3 p
        have HAW := Lib.hid hAW
        have HSk2 : gs < wr.heap.size := HSk.out.lt
        have HFk2 : gf < wr.heap.size := HFk.out.lt
        clear hSW hFW hBW hPW hZW hAW c0 c1 c2 c3 c4 HSk HFk HBX HPk HAk HZk z0 z1 z2 z3 z4 p0 p1 p2 p3 p4
        rcases Nat.eq_zero_or_pos k with hk0 | hk0
        case' inl =>
          have gk : decide ((0 : Int) < (k : Int)) = false := by rw [decide_eq_false_iff_not]; omega
          refine wp_region_from (by kernel_rfl) (by kernel_rfl) ?_
          simp only [List.append_eq, List.cons_append, List.nil_append]
          repeat (go_big_quiet_step (fail))
          refine wpQuiet_nil ?_
          intro _ hw'
          obtain ⟨p, rfl⟩ := hw'
          clear gk
        case' inr =>
          obtain ⟨⟨y0, y1, y2, y3, y4⟩, hy⟩ : ∃ y, L[k - 1]? = some y := ⟨_, List.getElem?_eq_getElem (by omega)⟩
          have ha := FF.out.adj (k - 1) _ _ hy (by rw [show k - 1 + 1 = k by omega]; exact HX.out)
          have cr := fun W => rises_yes y0 y1 y2 y3 y4 ((t : Int) + 1) x1 x2 x3 x4 W ha
          obtain ⟨_, _, ee, _, d0, d1, d2, d3, d4⟩ := HAW.out.slot hy
          cases ee
          have D0 := fun p : From W => From.cell d0 p
          have D1 := fun p : From W => From.cell d1 p
          have D2 := fun p : From W => From.cell d2 p
          have D3 := fun p : From W => From.cell d3 p
          have D4 := fun p : From W => From.cell d4 p
          have gk : decide ((0 : Int) < (k : Int)) = true := by rw [decide_eq_true_eq]; omega
          have k1 : 0 ≤ (k : Int) - 1 := by omega
          have k2 : (k : Int) - 1 < (L.length : Int) := by omega
          have iw := IntWalk.i64_in ((k : Int) - 1) (by omega)
          have it : ((k : Int) - 1).toNat = k - 1 := by omega
          clear hy ha d0 d1 d2 d3 d4
          refine wp_region_from (by kernel_rfl) (by kernel_rfl) ?_
          simp only [List.append_eq, List.cons_append, List.nil_append]
          repeat (go_big_quiet_step (exact calls_from (cr _)))
          refine wpQuiet_nil ?_
          intro _ hw'
          obtain ⟨p, rfl⟩ := hw'
          clear gk iw it cr D0 D1 D2 D3 D4 k1 k2
        all_goals
          have HS6 := Lib.hid (HSW.out.keep p.below)
          have HF6 := Lib.hid (HFW.out.keep p.below)
          have HB6 := Lib.hid (HBW.out.keep p.below)
          have HP6 := Lib.hid (HPW.out.keep p.below)
          have HZ6 := Lib.hid (HZW.out.trans (p.below.mono HZW.out.size))
          clear Z0 Z1 Z2 Z3 Z4 P1 P2 P3 HSW HFW HBW HPW HZW HAW v0 v1 v2 v3 v4 v5 v6 v7 v8 v9
          generalize p.W = w6 at HS6 HF6 HB6 HP6 HZ6 ⊢
          clear p
          obtain ⟨z0, z1, z2, z3, z4⟩ := HB6.out.facts5
          have hz6 : wr.heap.size < w6.heap.size := HB6.out.lt
          have hzp6 : w.heap.size < w6.heap.size := HP6.out.lt
          have hwg : wr.heap.size ≠ gs ∧ wr.heap.size ≠ gf := ⟨fun e => by have := HSk2; omega, fun e => by have := HFk2; omega⟩
          by_cases hp : x4 < 0
          · have HR1 := Lib.hid (show cntRow N byPage (L.take (k + 1)) = cntRow N byPage (L.take k) by rw [take_snoc L k _ HX.out]; exact cntRow_same _ _ _ (fun q => by simp [byPage]; omega))
            have HR2 := Lib.hid (show cntRow K bySheet (L.take (k + 1)) = cntRow K bySheet (L.take k) by rw [take_snoc L k _ HX.out]; exact cntRow_same _ _ _ (fun q => by simp [bySheet]; omega))
            go_wp2_with fail
            go_roundw
            case rel => exact ⟨k + 1, by omega, by go_num, HZ6.out.size, by rw [HR1.out]; exact HS6.out, by rw [HR2.out]; exact HF6.out, HZ6.out⟩
            case measure => simp [intOf]; omega
          · obtain ⟨q, rfl⟩ := Int.eq_ofNat_of_zero_le (show 0 ≤ x4 by omega)
            have hq : q < N := by omega
            have cat := fun W => at_any kd r c s sh N q W
            rw [HAT.out (by omega)] at cat
            dsimp only [vSl] at cat
            have CAT := Lib.hid cat
            have e1 := cntRow_set (n := N) (j := q) byPage (L.take k) ⟨(t : Int) + 1, x1, x2, x3, (q : Int)⟩ (fun q' => by unfold byPage; rw [decide_eq_decide]; simp only; omega)
            have e2 := cntRow_set (n := K) (j := t) bySheet (L.take k) ⟨(t : Int) + 1, x1, x2, x3, (q : Int)⟩ (fun q' => by unfold bySheet; rw [decide_eq_decide]; simp only; omega)
            rw [← take_snoc L k _ HX.out] at e1 e2
            have g1 := cntRow_get byPage (L.take k) hq
            have g2 := cntRow_get bySheet (L.take k) ht1
            have l1 := List.length_filter_le (byPage · q) (L.take k)
            have l2 := List.length_filter_le (bySheet · t) (L.take k)
            rw [List.length_take] at l1 l2
            generalize ((L.take k).filter (byPage · q)).length = V at e1 g1 l1
            generalize ((L.take k).filter (bySheet · t)).length = U at e2 g2 l2
            have hV : V ≤ 1112 := by omega
            have hU : U ≤ 1112 := by omega
            have E1 := Lib.hid e1
            have E2 := Lib.hid e2
            have hqn : (q : Int) < (N : Int) := by omega
            have htn : (t : Int) < (K : Int) := by omega
            have j1 := HS6.out.cell q
            have j2 := HF6.out.cell t
            rw [ints_get g1] at j1
            rw [ints_get g2] at j2
            have j3 := HS6.out.frozen q
            have j4 := HF6.out.frozen t
            have hzs6 : gs < w6.heap.size := HS6.out.lt
            have hzf6 : gf < w6.heap.size := HF6.out.lt
            have hwg1 := hwg.1
            have hwg2 := hwg.2
            have hpg1 : w.heap.size ≠ gs := by omega
            have hpg2 : w.heap.size ≠ gf := by omega
            obtain ⟨p0, p1, p2, p3, p4⟩ := HP6.out.facts5
            clear cat e1 e2 g1 g2 l1 l2 hwg
            go_wp2_with fail
            refine gen_world (F := fun Y => Blk Y gs 3 (ints (cntRow N byPage (L.take (k + 1)))) ∧ Blk Y gf 3 (ints (cntRow K bySheet (L.take (k + 1)))) ∧ Blk Y wr.heap.size 37 #[.int .i64 ((t : Int) + 1), .int .i64 x1, .int .i64 x2, .int .i64 x3, .int .i64 q] ∧ Below w3.heap.size w3 Y) (G := fun Y => Calls _ _ _ Y _) _ ⟨?fs, ?ff, ?fb, ?fz⟩ ?_
            case fs => have := (HS6.out.set_ q (.int .i64 ((V : Int) + 1))).far (p := ⟨gf, t, none⟩) hne (.int .i64 ((U : Int) + 1)); rw [ints_set, E1.out] at this; exact this
            case ff => have := (HF6.out.far (p := ⟨gs, q, none⟩) hne2 (.int .i64 ((V : Int) + 1))).set_ t (.int .i64 ((U : Int) + 1)); rw [ints_set, E2.out] at this; exact this
            case fb => exact (HB6.out.far (p := ⟨gs, q, none⟩) hwg1 _).far (p := ⟨gf, t, none⟩) hwg2 _
            case fz => exact (HZ6.out.setCell (p := ⟨gs, q, none⟩) hgs _).setCell (p := ⟨gf, t, none⟩) hgf _
            rintro Y ⟨yS, yF, yB, yZ⟩
            have YS := Lib.hid yS
            have YF := Lib.hid yF
            have YB := Lib.hid yB
            have YZ := Lib.hid yZ
            clear z0 z1 z2 z3 z4 p0 p1 p2 p3 p4 j1 j2 j3 j4 E1 E2 HS6 HF6 HP6 HZ6 HB6 yS yF yB yZ
            refine (CAT.out _).mono ?_
            rintro e w7 ⟨rfl, hb7⟩
            have ZS := Lib.hid (YS.out.keep hb7)
            have ZF := Lib.hid (YF.out.keep hb7)
            have ZB := Lib.hid (YB.out.keep hb7)
            have ZZ := Lib.hid (YZ.out.trans (hb7.mono YZ.out.size))
            obtain ⟨z0, z1, z2, z3, z4⟩ := ZB.out.facts5
            have hzz : wr.heap.size < w7.heap.size := ZB.out.lt
            clear hb7 YS YF YB YZ
            go_wp2_with fail
            go_roundw
            case rel => exact ⟨k + 1, by omega, by go_num, (ZZ.out.alloc ZZ.out.size _).size, ZS.out.alloc _, ZF.out.alloc _, ZZ.out.alloc ZZ.out.size _⟩
            case measure => simp [intOf]; omega
      · have hlt' : ¬ (k : Int) < (L.length : Int) := by omega
        have hek : k = L.length := by omega
        have HS1 : Hid (Blk wr gs 3 (ints (cntRow N byPage L))) := by
          show Blk _ _ _ _
          have := HSk.out
          rw [hek, List.take_length] at this; exact this
        have HF1 : Hid (Blk wr gf 3 (ints (cntRow K bySheet L))) := by
          show Blk _ _ _ _
          have := HFk.out
          rw [hek, List.take_length] at this; exact this
        clear hek HSk HFk
        obtain ⟨w4, rfl⟩ : ∃ w4 : World, w4 = wr := ⟨_, rfl⟩
        go_wp2_with fail
        -- each page once
        go_loopw [13] (fun i wr => ∃ j : Nat, j ≤ N ∧ i = .int .i64 j ∧ w4 = wr) (fun i _ => N - (intOf i).toNat)
        case atStart => exact ⟨0, Nat.zero_le _, rfl, rfl⟩
        case round =>
          obtain ⟨j, hj, rfl, rfl⟩ := hrel
          by_cases hjl : j < N
          · have hjl' : (j : Int) < (N : Int) := by omega
            have c0 := HS1.out.cell j
            rw [ints_get (cntRow_get byPage L hjl), FF.out.one j hjl, show ((1 : Nat) : Int) = 1 from rfl] at c0
            go_wp2_with fail
            go_roundw
            case rel => exact ⟨j + 1, by omega, by go_num, by first | rfl | trivial⟩
            case measure => simp [intOf]; omega
          · have hjl' : ¬ (j : Int) < (N : Int) := by omega
            go_wp2_with fail
            -- each sheet has a page
            go_loopw [14] (fun i wr => ∃ j : Nat, j ≤ K ∧ i = .int .i64 j ∧ w4 = wr) (fun i _ => K - (intOf i).toNat)
            case atStart => exact ⟨0, Nat.zero_le _, rfl, rfl⟩
            case round =>
              obtain ⟨m, hm, rfl, rfl⟩ := hrel
              by_cases hml : m < K
              · have hml' : (m : Int) < (K : Int) := by omega
                have c0 := HF1.out.cell m
                have hpos := FF.out.some_ m hml
                rw [ints_get (cntRow_get bySheet L hml)] at c0
                generalize (L.filter (bySheet · m)).length = V at c0 hpos
                have hV : ((V : Int) == 0) = false := by rw [beq_eq_false_iff_ne]; omega
                go_wp2_with fail
                go_roundw
                case rel => exact ⟨m + 1, by omega, by go_num, by first | rfl | trivial⟩
                case measure => simp [intOf]; omega
              · have hml' : ¬ (m : Int) < (K : Int) := by omega
                obtain ⟨⟨u0, u1, u2, u3, u4⟩, hu⟩ : ∃ u, L[0]? = some u := ⟨_, List.getElem?_eq_getElem (by omega)⟩
                have HU := Lib.hid hu
                have HA4 := Lib.hid (HA3.out.below HZk.out)
                have HP4 := Lib.hid (HP3.out.keep HZk.out)
                have HB4 := Lib.hid (HB3.out.trans (HZk.out.mono HB3.out.size))
                obtain ⟨b, off, rfl, hblt, _⟩ := HA4.out.slot hu
                clear hu HS1 HF1 HA3 HP3 HB3 HZk hne hne2 hgs hgf
                go_wp2_with fail
                -- turned
                go_loopw [15, 16] (fun v i wr => ∃ j : Nat, j ≤ L.length ∧ i = .int .i64 j ∧ w4.heap.size ≤ wr.heap.size ∧ Hid (wr.ownsRow w4.heap.size 37 5 v (L.drop j).reverse.length (flatL encSl (L.drop j).reverse)) ∧ Hid (Below w4.heap.size w4 wr)) (fun _ i _ => (intOf i).toNat)
                case atStart => exact ⟨L.length, Nat.le_refl _, rfl, Nat.le_refl _, by show World.ownsRow _ _ _ _ _ _ _; rw [show (L.drop L.length).reverse = [] by simp]; exact World.ownsRow_nil _ _ _ _, Below.refl _ _⟩
                case round =>
                  obtain ⟨j, hj, rfl, hsz, hown, hnx⟩ := hrel
                  rcases Nat.eq_zero_or_pos j with h0 | h0
                  · subst h0
                    have hT := hown.out
                    rw [List.drop_zero] at hT
                    obtain ⟨g, cap, cur, hv, hgb, hBk, hc1, hc2, hcur, hRT⟩ := own_blk hT (by simp; omega)
                    rw [List.length_reverse] at hv hc1
                    subst hv
                    have cR := fun W (hA : RowAt encSl 5 W (some ⟨g, 0, none⟩) L.reverse) => read_any kd r c s sh (some ⟨g, 0, none⟩) cap L.reverse W hA (fun x hx => FF.out.wf x (List.mem_reverse.1 hx)) (by simp; omega)
                    simp only [ReadGives, List.length_reverse, FF.out.rev.1] at cR
                    have CR := Lib.hid cR
                    have HRT := Lib.hid hRT
                    have HBk := Lib.hid hBk
                    obtain ⟨p0, p1, p2, p3, p4⟩ := (HP4.out.keep hnx.out).facts5
                    have hzP : w.heap.size < wr.heap.size := (HP4.out.keep hnx.out).lt
                    clear hT cR hRT hBk hown
                    go_wp2_with fail
                    refine (CR.out _ HRT.out).mono ?_
                    rintro e w6 ⟨hb6, ⟨_, P, cP, rfl, hPg, hPf⟩ | ⟨h, _⟩⟩
                    rotate_left
                    · exact absurd FF.out.rev.2 h
                    try rw [FF.out.rev.1]
                    have HG6 := Lib.hid (show RowAt encI 1 w6 P (numsTo N) from by first | exact hPg | (rw [← FF.out.rev.1]; exact hPg))
                    have HRT6 := Lib.hid (HRT.out.below hb6)
                    have HBk6 := Lib.hid (HBk.out.keep hb6)
                    have HA6 := Lib.hid ((HA4.out.below hnx.out).below hb6)
                    have HP6 := Lib.hid ((HP4.out.keep hnx.out).keep hb6)
                    have HB6 := Lib.hid (bt (bt HB4.out hnx.out) hb6)
                    have hwg : w.heap.size ≤ g := Nat.le_trans HB4.out.size hgb
                    have HPF : Hid (∀ a, P = some a → g ≠ a.block) := fun a e => by
                      have h1 := hPf a e
                      have h2 := HBk.out.lt
                      omega
                    have hpg : w.heap.size ≠ g := by have := HP4.out.lt; omega
                    clear hb6 hPg hPf CR HRT HBk hnx HP4 HA4 HB4 hzP p0 p1 p2 p3 p4
                    obtain ⟨p0, p1, p2, p3, p4⟩ := HP6.out.facts5
                    have hzP : w.heap.size < w6.heap.size := HP6.out.lt
                    have hsl := slice_one (some ⟨b, off, none⟩) L.length cp (by omega) hl1
                    have hcT : ∀ W, Below w6.heap.size w6 W → Calls Try.prog 16 #[.agg #[.int .i64 kd, .int .i64 r, .int .i64 c, .int .i64 s, .int .i64 sh], .slice (if cp = 1 then some ⟨b, off, none⟩ else (some (⟨b, off, none⟩ : Addr)).map (·.add 5)) (L.length - 1) (cp - 1)] W fun e w' => ∃ v bb, e = .returned (.tuple #[v, .bool bb]) ∧ (1 < L.length → bb = false) ∧ Below W.heap.size W w' := fun W hW => by
                      have := read_any kd r c s sh _ (cp - 1) L.tail W (tail_at (HA6.out.below hW) hl1) (fun x hx => FF.out.wf x (List.mem_of_mem_tail hx)) (by rw [List.length_tail]; omega)
                      rw [List.length_tail] at this
                      refine this.mono ?_
                      rintro e w' ⟨hb, ⟨hok, B, c', rfl, _⟩ | ⟨_, rfl⟩⟩
                      · exact ⟨_, true, rfl, fun h => absurd hok (FF.out.less h), hb⟩
                      · exact ⟨_, false, rfl, fun _ => rfl, hb⟩
                    generalize (if cp = 1 then some ⟨b, off, none⟩ else (some (⟨b, off, none⟩ : Addr)).map (·.add 5)) = AT at hsl hcT
                    have CT := Lib.hid hcT
                    have hW0 : Hid (Below w6.heap.size w6 w6.drew) := (Below.refl _ _).drew
                    clear hcT
                    go_wp2_with fail
                    go_region_held3 (fun w' => w'.cell? ⟨w.heap.size, 0, none⟩ = some (.int .i64 kd) ∧ w'.cell? ⟨w.heap.size, 1, none⟩ = some (.int .i64 r) ∧ w'.cell? ⟨w.heap.size, 2, none⟩ = some (.int .i64 c) ∧ w'.cell? ⟨w.heap.size, 3, none⟩ = some (.int .i64 s) ∧ w'.cell? ⟨w.heap.size, 4, none⟩ = some (.int .i64 sh) ∧ Hid (Below w6.heap.size w6 w'))
                      (first
                        | (exact ⟨p0, p1, p2, p3, p4, hW0⟩)
                        | (go_split_ands; exact keep5 hq ⟨by assumption, by assumption, by assumption, by assumption, by assumption, by assumption⟩))
                      (first
                        | (go_at_call 16; (try go_split_ands); refine (CT.out _ (Hid.out (by assumption))).mono ?_; rintro e w7 ⟨vT, bT, rfl, hbT, hq⟩))
                    all_goals
                      (try go_split_ands)
                      have B7 : Hid (Below w6.heap.size w6 w7) := by first | exact Hid.out (by assumption) | exact bt (Hid.out (by assumption)) hq
                      have HG7 := Lib.hid (HG6.out.below B7.out)
                      have HRT7 := Lib.hid (HRT6.out.below B7.out)
                      have HBk7 := Lib.hid (HBk6.out.keep B7.out)
                      have HP7 := Lib.hid (HP6.out.keep B7.out)
                      have HB7 := Lib.hid (bt HB6.out B7.out)
                      have hlr : L.reverse.length = L.length := List.length_reverse
                      obtain ⟨⟨e0, e1, e2, e3, e4⟩, hlast⟩ : ∃ x, L.reverse[0]? = some x := ⟨_, List.getElem?_eq_getElem (by omega)⟩
                      have hfst : L.reverse[L.length - 1]? = some ⟨u0, u1, u2, u3, u4⟩ := by
                        rw [List.getElem?_reverse (by omega), show L.length - 1 - (L.length - 1) = 0 by omega]; exact HU.out
                      obtain ⟨_, _, ee, hgz, m0, m1, m2, m3, m4⟩ := HRT7.out.slot hfst
                      cases ee
                      obtain ⟨_, _, ee, _, n0, n1, n2, n3, n4⟩ := HRT7.out.slot hlast
                      cases ee
                      simp only [Nat.zero_mul, Nat.zero_add, Nat.add_zero] at n0 n1 n2 n3 n4 m0 m1 m2 m3 m4
                      have f0 := HBk7.out.frozen 0
                      have f1 := HBk7.out.frozen 1
                      have f2 := HBk7.out.frozen 2
                      have f3 := HBk7.out.frozen 3
                      have f4 := HBk7.out.frozen 4
                      obtain ⟨r0, r1, r2, r3, r4⟩ := HP7.out.facts5
                      have hcU : ∀ W, RowAt encSl 5 W (some ⟨g, 0, none⟩) (L.reverse.set 0 ⟨u0, u1, u2, u3, u4⟩) → Calls Try.prog 16 #[.agg #[.int .i64 kd, .int .i64 r, .int .i64 c, .int .i64 s, .int .i64 sh], .slice (some ⟨g, 0, none⟩) L.length cap] W fun e w' => ∃ v bb, e = .returned (.tuple #[v, .bool bb]) ∧ (1 < L.length → bb = false) ∧ Below W.heap.size W w' := fun W hW => by
                        have := read_any kd r c s sh _ cap _ W hW (fun x hx => by
                          rcases List.mem_or_eq_of_mem_set hx with hx | rfl
                          · exact FF.out.wf x (List.mem_reverse.1 hx)
                          · exact FF.out.wf _ (List.mem_iff_getElem?.2 ⟨0, HU.out⟩)) (by rw [List.length_set]; omega)
                        rw [List.length_set, hlr] at this
                        refine this.mono ?_
                        rintro e w' ⟨hb, ⟨hok, B, c', rfl, _⟩ | ⟨_, rfl⟩⟩
                        · exact ⟨_, true, rfl, fun h => absurd hok (FF.out.twice _ HU.out h), hb⟩
                        · exact ⟨_, false, rfl, fun _ => rfl, hb⟩
                      have HCU := Lib.hid hcU
                      have HBT := Lib.hid hbT
                      have hne0 : (L.length : Int) - 1 < (L.length : Int) := by omega
                      have hnn0 : 0 ≤ (L.length : Int) - 1 := by omega
                      have hL0 : (0 : Int) < (L.length : Int) := by omega
                      have it : ((L.length : Int) - 1).toNat = L.length - 1 := by omega
                      clear hcU hbT hlast hfst p0 p1 p2 p3 p4
                      go_wp2_with fail
                      clear it
                      refine gen_world (F := fun W => RowAt encSl 5 W (some ⟨g, 0, none⟩) (L.reverse.set 0 ⟨u0, u1, u2, u3, u4⟩) ∧ RowAt encI 1 W P (numsTo N) ∧ Below w.heap.size w W) (G := fun W => Calls _ _ _ W _) _ ⟨row_first HBk7.out HRT7.out (by omega) hcur, HG7.out.grown (gb_set (gb_set (gb_set (gb_set (gb_set (gb_refl w7 (some g)) 0 _) 1 _) 2 _) 3 _) 4 _) (fun a e => by have := HPF.out a e; simpa using fun h => this h.symm), bset5 HB7.out hwg _ _ _ _ _⟩ ?_
                      rintro W8 ⟨hR8, hG8, hB8⟩
                      have HG8 := Lib.hid hG8
                      have HB8 := Lib.hid hB8
                      refine (HCU.out _ hR8).mono ?_
                      rintro e w9 ⟨vU, bU, rfl, hbU, hb9⟩
                      have HG9 := Lib.hid (HG8.out.below hb9)
                      have HB9 := Lib.hid (bt HB8.out hb9)
                      clear n0 n1 n2 n3 n4 m0 m1 m2 m3 m4 f0 f1 f2 f3 f4 r0 r1 r2 r3 r4 hR8 hG8 hB8 hb9 HG8 HB8 HCU HG7 HRT7 HBk7 HP7 HB7
                      by_cases hll : 1 < L.length
                      · have hll' : (1 : Int) < (L.length : Int) := by omega
                        obtain rfl := HBT.out hll
                        obtain rfl := hbU hll
                        clear hbU
                        go_wp2_with fail
                        go_loopw [23] (fun i wr => ∃ k : Nat, k ≤ N ∧ i = .int .i64 k ∧ w9 = wr) (fun i _ => N - (intOf i).toNat)
                        case atStart => exact ⟨0, Nat.zero_le _, rfl, rfl⟩
                        case round =>
                          obtain ⟨k, hk, rfl, rfl⟩ := hrel
                          by_cases hlt : k < N
                          · have hlt' : (k : Int) < (N : Int) := by omega
                            obtain ⟨b, off, rfl, hblt, c0⟩ := HG9.out.num (nums_get hlt)
                            go_wp2_with fail
                            go_roundw
                            case rel => exact ⟨k + 1, by omega, by go_num, by first | rfl | trivial⟩
                            case measure => simp [intOf]; omega
                          · have hlt' : ¬ (k : Int) < (N : Int) := by omega
                            go_wp2_with fail
                            refine (awake_any _).mono ?_
                            rintro e w10 ⟨rfl, hb10⟩
                            go_wp2_with fail
                            go_ret
                            exact ⟨rfl, bt HB9.out hb10⟩
                      · have hll' : ¬ (1 : Int) < (L.length : Int) := by omega
                        clear hbU
                        go_wp2_with fail
                        go_loopw [23] (fun i wr => ∃ k : Nat, k ≤ N ∧ i = .int .i64 k ∧ w9 = wr) (fun i _ => N - (intOf i).toNat)
                        case atStart => exact ⟨0, Nat.zero_le _, rfl, rfl⟩
                        case round =>
                          obtain ⟨k, hk, rfl, rfl⟩ := hrel
                          by_cases hlt : k < N
                          · have hlt' : (k : Int) < (N : Int) := by omega
                            obtain ⟨b, off, rfl, hblt, c0⟩ := HG9.out.num (nums_get hlt)
                            go_wp2_with fail
                            go_roundw
                            case rel => exact ⟨k + 1, by omega, by go_num, by first | rfl | trivial⟩
                            case measure => simp [intOf]; omega
                          · have hlt' : ¬ (k : Int) < (N : Int) := by omega
                            go_wp2_with fail
                            refine (awake_any _).mono ?_
                            rintro e w10 ⟨rfl, hb10⟩
                            go_wp2_with fail
                            go_ret
                            exact ⟨rfl, bt HB9.out hb10⟩
                  · obtain ⟨m, rfl⟩ : ∃ m, j = m + 1 := ⟨j - 1, by omega⟩
                    have hm0 : (0 : Int) < ((m + 1 : Nat) : Int) := by omega
                    obtain ⟨⟨x0, x1, x2, x3, x4⟩, hx⟩ : ∃ x, L[m]? = some x := ⟨_, List.getElem?_eq_getElem (by omega)⟩
                    have HD : Hid ((L.drop m).reverse = (L.drop (m + 1)).reverse ++ [⟨x0, x1, x2, x3, x4⟩]) := by
                      show _ = _
                      obtain ⟨hm', e⟩ := List.getElem?_eq_some_iff.1 hx
                      rw [List.drop_eq_getElem_cons hm', e, List.reverse_cons]
                    obtain ⟨_, _, ee, _, c0, c1, c2, c3, c4⟩ := (HA4.out.below hnx.out).slot hx
                    cases ee
                    have hlr : (L.drop (m + 1)).reverse.length ≤ 1112 := by simp; omega
                    have O5 := Lib.hid (hown.out.alloc (.cells #[.int .i64 x0, .int .i64 x1, .int .i64 x2, .int .i64 x3, .int .i64 x4] 37))
                    clear hx
                    go_wp2_with (at_builtin; refine wpList_append_own _ rfl _ _ 28 rfl w4.heap.size 37 i0 (.agg #[.int .i64 0, .int .i64 0, .int .i64 0, .int .i64 0, .int .i64 0]) 5 40 Try.underlying28 hi hz0 hz1 hz2 rfl (by decide) _ _ _ rfl O5.out ⟨wr.heap.size, 0, none⟩ 1 1 [.int .i64 x0, .int .i64 x1, .int .i64 x2, .int .i64 x3, .int .i64 x4] rfl ?c0 ?c1 ?c2 ?c3 ?c4 ?c5 ?_)
                    case c0 => rfl
                    case c1 => exact cells_new _ _ _
                    case c2 => intro u hu; simp at hu; rcases hu with rfl | rfl | rfl | rfl | rfl <;> rfl
                    case c3 => unfold maxLen; omega
                    case c4 => omega
                    case c5 => simp; omega
                    intro v5 w5 hown5 hgrow5 _
                    have O6 : Hid (w5.ownsRow w4.heap.size 37 5 v5 (L.drop m).reverse.length (flatL encSl (L.drop m).reverse)) := by
                      show World.ownsRow _ _ _ _ _ _ _
                      rw [HD.out]
                      refine own_snoc ?_
                      rw [List.length_reverse, List.length_drop]; exact hown5
                    have N6 : Hid (Below w4.heap.size w4 w5) := (hnx.out.alloc hnx.out.size _).grown hgrow5 (by simp; omega) (fun g hg => (hown.out.lt g hg).1)
                    clear hown5 hgrow5 O5
                    go_wp2_with fail
                    go_roundw
                    case rel => exact ⟨m, by omega, by go_num, N6.out.size, O6.out, N6.out⟩
                    case measure => simp [intOf]
end Go.Proofs.Ythiplocjiamahaa
