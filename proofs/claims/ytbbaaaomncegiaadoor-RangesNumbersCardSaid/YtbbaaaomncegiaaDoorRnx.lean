/-
  gatefoldlaw32.RangesNumbers returns true where both are choices; below the heap's size nothing turns.
-/
import Derived.Test.YtbbaaaomncegiaaDoorRnw
import Derived.Deep.CutRange
namespace Go.Proofs.YtbbaaaomncegiaaDoor
open Go.RowKit Go.Proofs.Spn Go.Proofs.Rng Go.Proofs.Prn

set_option maxHeartbeats 32000000 in
set_option maxRecDepth 100000 in
theorem nums_may (A B : Option Addr) (c d : Nat) (xs ys : List Sp) (s1 s2 no : Int) (m : Int) (w : World) (hA : Spans w A xs) (hB : Spans w B ys) (hT : Tab w) (hm : w.cell? ⟨0, 0, none⟩ = some (.int .i64 m)) (h1 : xs.length ≤ 60) (h2 : ys.length ≤ 60) (hM : May xs) (hO : May ys) :
    Calls Tryd.prog 4 #[.slice A xs.length c, .slice B ys.length d, .agg #[.int .i64 s1, .int .i64 s2], .int .i64 no] w fun e w' => e = .returned (.bool true) ∧ Below w.heap.size w w' := by
  have HN0 := Lib.hid (NCtx.start (s1 := s1) (s2 := s2) hT hm)
  have HA := Lib.hid hA
  have HB0 := Lib.hid hB
  have g1 : ¬ (60 : Int) < (xs.length : Int) := by omega
  have g2 : ¬ (60 : Int) < (ys.length : Int) := by omega
  have d1 : decide ((60 : Int) < (xs.length : Int)) = false := decide_eq_false g1
  have d2 : decide ((60 : Int) < (ys.length : Int)) = false := decide_eq_false g2
  clear hA hB hT hm
  -- the plain law
  have CP := Lib.hid fun (W : World) (h : Below w.heap.size w W) => put_any A c xs s1 s2 W (HA.out.below h) (by omega)
  have CT := Lib.hid fun (W : World) (h : Below w.heap.size w W) => take_any A c xs s1 s2 W (HA.out.below h) (by omega)
  have CB := Lib.hid fun (W : World) (h : Below w.heap.size w W) => both_any A B c d xs ys W (HA.out.below h) (HB0.out.below h) (by have := Nat.mul_le_mul h1 h2; omega) (by omega)
  have CO := Lib.hid fun (W : World) (h : Below w.heap.size w W) => others_any A c xs W (HA.out.below h) (by omega)
  have mX := Lib.hid ((mayB_iff _).2 hM)
  have mY := Lib.hid ((mayB_iff _).2 hO)
  have mP := Lib.hid ((mayB_iff _).2 (put_may hM (s1, s2)))
  have mT := Lib.hid ((mayB_iff _).2 (take_may hM (s1, s2)))
  have mB := Lib.hid ((mayB_iff _).2 (both_may hM hO))
  have mO := Lib.hid ((mayB_iff _).2 (others_may hM))
  have hP := Lib.hid (put_has hM (s1, s2) no)
  have hT1 := Lib.hid (take_has hM (s1, s2) no)
  have hB1 := Lib.hid (both_has hM hO no)
  have hO1 := Lib.hid (others_has hM no)
  have hU := Lib.hid (or_has hM hO no)
  have oo := Lib.hid (others_others hM)
  have bc := Lib.hid (both_comm hM hO)
  have tp := Lib.hid (take_put hM (s1, s2))
  have r1 : Hid (hasL xs no = true → inB no = true) := fun h => (inB_iff no).2 (hM.in_ ((hasL_iff hM no).1 h))
  have r2 : Hid (hasL ys no = true → inB no = true) := fun h => (inB_iff no).2 (hO.in_ ((hasL_iff hO no).1 h))
  have lP : (putS xs (s1, s2)).length ≤ 61 := by have := put_length xs (s1, s2); omega
  have lT : (takeS xs (s1, s2)).length ≤ 120 := by have := take_length xs (s1, s2); omega
  have lB : (bothS xs ys).length ≤ 3600 := by have := both_length xs ys; have := Nat.mul_le_mul h1 h2; omega
  have lO : (othersS xs).length ≤ 61 := by have := others_length xs; omega
  have lY : (othersS ys).length ≤ 61 := by have := others_length ys; omega
  have lV : (bothS (othersS xs) (othersS ys)).length ≤ 3721 := by have := both_length (othersS xs) (othersS ys); have := Nat.mul_le_mul lO lY; omega
  have lOY : (othersS xs).length * (othersS ys).length + (othersS ys).length ≤ 900000 := by have := Nat.mul_le_mul lO lY; omega
  have lYX : ys.length * xs.length + xs.length ≤ 900000 := by have := Nat.mul_le_mul h2 h1; omega
  clear hM hO
  obtain ⟨P, eP⟩ : ∃ P, putS xs (s1, s2) = P := ⟨_, rfl⟩
  obtain ⟨T, eT⟩ : ∃ P, takeS xs (s1, s2) = P := ⟨_, rfl⟩
  obtain ⟨Bo, eB⟩ : ∃ P, bothS xs ys = P := ⟨_, rfl⟩
  obtain ⟨Ot, eO⟩ : ∃ P, othersS xs = P := ⟨_, rfl⟩
  obtain ⟨Oy, eY⟩ : ∃ P, othersS ys = P := ⟨_, rfl⟩
  have CY := Lib.hid fun (W : World) (h : Below w.heap.size w W) => others_any B d ys W (HB0.out.below h) (by omega)
  simp only [eP, eT, eB, eO, eY] at CP CT CB CO CY mP mT mB mO hP hT1 hB1 hO1 hU oo bc tp lP lT lB lO lY lV lOY
  have EO := Lib.hid eO
  have EY := Lib.hid eY
  clear eP eT eB eO eY
  obtain ⟨V, eV⟩ : ∃ P, bothS Ot Oy = P := ⟨_, rfl⟩
  obtain ⟨U, eU⟩ : ∃ P, othersS V = P := ⟨_, rfl⟩
  simp only [eV, eU] at hU lV
  have EV := Lib.hid eV
  have EU := Lib.hid eU
  have lU : U.length ≤ 3722 := by have := others_length V; rw [eU] at this; omega
  clear eV eU
  obtain ⟨b13, e13⟩ : ∃ b, inB no = b := ⟨_, rfl⟩
  obtain ⟨b14, e14⟩ : ∃ b, hasL xs no = b := ⟨_, rfl⟩
  obtain ⟨b15, e15⟩ : ∃ b, hasL ys no = b := ⟨_, rfl⟩
  obtain ⟨b16, e16⟩ : ∃ b, hasS (s1, s2) no = b := ⟨_, rfl⟩
  simp only [e13, e14, e15, e16] at hP hT1 hB1 hO1 hU r1 r2
  have E13 := Lib.hid e13
  have E14 := Lib.hid e14
  have E15 := Lib.hid e15
  have E16 := Lib.hid e16
  clear e13 e14 e15 e16
  go_enter Tryd.func4, Tryd.ntmps4
  go_wp2_with fail
  refine (may_any A c xs _ (HA.out.below HN0.out.ctx.below) (by omega)).mono ?_
  rw [mX.out]
  rintro e w1 ⟨rfl, hb1⟩
  have HN1 := Lib.hid (HN0.out.on hb1)
  clear hb1 HN0
  go_wp2_with fail
  refine (may_any B d ys _ (HB0.out.below HN1.out.ctx.below) (by omega)).mono ?_
  rw [mY.out]
  rintro e w2 ⟨rfl, hb2⟩
  have HN2 := Lib.hid (HN1.out.on hb2)
  clear hb2 HN1
  go_upto_region 3 with fail
  go_cut [9, 10, 11, 12] from 37 to 47 (fun q9 q10 q11 q12 wx => ∃ A9 c9 A10 c10 A11 c11 A12 c12, q9 = .slice A9 P.length c9 ∧ q10 = .slice A10 T.length c10 ∧ q11 = .slice A11 Bo.length c11 ∧ q12 = .slice A12 Ot.length c12 ∧ Hid (Spans wx A9 P) ∧ Hid (Spans wx A10 T) ∧ Hid (Spans wx A11 Bo) ∧ Hid (Spans wx A12 Ot) ∧ Hid (Below w2.heap.size w2 wx))
  case first =>
    have KEEP : Hid (∀ W, Below w2.heap.size w2 W → W.cell? ⟨w.heap.size, 0, none⟩ = some (.int .i64 s1) ∧ W.cell? ⟨w.heap.size, 1, none⟩ = some (.int .i64 s2) ∧ Hid (Below w2.heap.size w2 W)) := fun W h => ⟨cell_keep HN2.out.c0 h, cell_keep HN2.out.c1 h, h⟩
    have ON : Hid (∀ W, Below w2.heap.size w2 W → Below w.heap.size w W) := fun W h => bt HN2.out.ctx.below h
    go_region_held3 (fun W => W.cell? ⟨w.heap.size, 0, none⟩ = some (.int .i64 s1) ∧ W.cell? ⟨w.heap.size, 1, none⟩ = some (.int .i64 s2) ∧ Hid (Below w2.heap.size w2 W))
      (exact KEEP.out _ (by repeat (first | exact Below.refl _ _ | refine bd ?_ | refine bt ?_ (by assumption))))
      ((first
        | (go_at_call 10; refine (CP.out _ (ON.out _ (by repeat (first | exact Below.refl _ _ | refine bd ?_ | refine bt ?_ (by assumption))))).mono ?_; rintro e wA ⟨A9, c9, rfl, hS9, hbA, _⟩)
        | (go_at_call 11; refine (CT.out _ (ON.out _ (by repeat (first | exact Below.refl _ _ | refine bd ?_ | refine bt ?_ (by assumption))))).mono ?_; rintro e wB ⟨A10, c10, rfl, hS10, hbB, _⟩)
        | (go_at_call 12; refine (CB.out _ (ON.out _ (by repeat (first | exact Below.refl _ _ | refine bd ?_ | refine bt ?_ (by assumption))))).mono ?_; rintro e wC ⟨A11, c11, rfl, hS11, hbC, _⟩)
        | (go_at_call 13; refine (CO.out _ (ON.out _ (by repeat (first | exact Below.refl _ _ | refine bd ?_ | refine bt ?_ (by assumption))))).mono ?_; rintro e wD ⟨A12, c12, rfl, hS12, hbD, _⟩)))
    all_goals
      go_wp2_with fail
      go_meet
      exact ⟨A9, c9, A10, c10, A11, c11, A12, c12, rfl, rfl, rfl, rfl, by repeat (first | assumption | refine Spans.below ?_ (by assumption)), by repeat (first | assumption | refine Spans.below ?_ (by assumption)), by repeat (first | assumption | refine Spans.below ?_ (by assumption)), by repeat (first | assumption | refine Spans.below ?_ (by assumption)), by repeat (first | exact Below.refl _ _ | refine bd ?_ | refine bt ?_ (by assumption))⟩
  case rest =>
    obtain ⟨A9, c9, A10, c10, A11, c11, A12, c12, rfl, rfl, rfl, rfl, HS9, HS10, HS11, HS12, HBX⟩ := hcut
    have HN3 := Lib.hid (HN2.out.on HBX.out)
    have HZ3 := Lib.hid (Below.refl wc.heap.size wc)
    clear HN2 HBX CP CT CB CO
    go_wp2_with fail
    refine (may_any A9 c9 P _ (HS9.out.below HZ3.out) (by omega)).mono ?_
    rw [mP.out]
    rintro e w4 ⟨rfl, hb4⟩
    have HN4 := Lib.hid (HN3.out.on hb4)
    have HZ4 := Lib.hid (bt HZ3.out hb4)
    clear hb4 HN3 HZ3
    go_wp2_with fail
    refine (may_any A10 c10 T _ (HS10.out.below HZ4.out) (by omega)).mono ?_
    rw [mT.out]
    rintro e w5 ⟨rfl, hb5⟩
    have HN5 := Lib.hid (HN4.out.on hb5)
    have HZ5 := Lib.hid (bt HZ4.out hb5)
    clear hb5 HN4 HZ4
    go_wp2_with fail
    refine (may_any A11 c11 Bo _ (HS11.out.below HZ5.out) (by omega)).mono ?_
    rw [mB.out]
    rintro e w6 ⟨rfl, hb6⟩
    have HN6 := Lib.hid (HN5.out.on hb6)
    have HZ6 := Lib.hid (bt HZ5.out hb6)
    clear hb6 HN5 HZ5
    go_wp2_with fail
    refine (may_any A12 c12 Ot _ (HS12.out.below HZ6.out) (by omega)).mono ?_
    rw [mO.out]
    rintro e w7 ⟨rfl, hb7⟩
    have HN7 := Lib.hid (HN6.out.on hb7)
    have HZ7 := Lib.hid (bt HZ6.out hb7)
    clear hb7 HN6 HZ6
    go_upto_region 6 with fail
    go_cut [13] from 66 to 71 (fun q13 wx => q13 = .bool b13 ∧ w7 = wx)
    case first =>
      by_cases p1 : (1 : Int) ≤ no
      · by_cases p2 : no ≤ (999999 : Int)
        · have e : b13 = true := by rw [← E13.out]; unfold inB; simp [p1, p2]
          subst e
          have q1 := decide_eq_true p1
          have q2 := decide_eq_true p2
          clear r1 r2
          go_wp2_with fail
          go_meet
          exact ⟨rfl, rfl⟩
        · have e : b13 = false := by rw [← E13.out]; unfold inB; simp [p1, p2]
          subst e
          have q1 := decide_eq_true p1
          have q2 := decide_eq_false p2
          clear r1 r2
          go_wp2_with fail
          go_meet
          exact ⟨rfl, rfl⟩
      · have e : b13 = false := by rw [← E13.out]; unfold inB; simp [p1]
        subst e
        have q1 := decide_eq_false p1
        clear r1 r2
        go_wp2_with fail
        go_meet
        exact ⟨rfl, rfl⟩
    case rest =>
      obtain ⟨rfl, hw⟩ := hcut
      subst hw
      go_upto_region 7 with fail
      go_cut [14, 15, 16] from 72 to 87 (fun q14 q15 q16 wx => q14 = .bool b14 ∧ q15 = .bool b15 ∧ q16 = .bool b16 ∧ Hid (Below w7.heap.size w7 wx))
      case first =>
        have cX := fun (q : From w7) => rhas_any A c xs no q.W (HA.out.below (bt HN7.out.ctx.below q.below)) (by omega)
        have cY := fun (q : From w7) => rhas_any B d ys no q.W (HB0.out.below (bt HN7.out.ctx.below q.below)) (by omega)
        rw [E14.out] at cX
        rw [E15.out] at cY
        have k0 := From.cell HN7.out.c0
        have k1 := From.cell HN7.out.c1
        by_cases p1 : s1 ≤ no
        · by_cases p2 : no < s2
          · have e : b16 = true := by rw [← E16.out]; unfold hasS; simp [p1, p2]
            subst e
            have q1 := decide_eq_true p1
            have q2 := decide_eq_true p2
            refine wp_region_from (by kernel_rfl) (by kernel_rfl) ?_
            iterate 5 (go_big_quiet_step ((go_at_call 14; exact calls_from (cX _))))
            repeat (go_big_quiet_step ((go_at_call 14; exact calls_from (cY _))))
            refine wpQuiet_nil ?_
            intro _ hw'
            obtain ⟨p4, rfl⟩ := hw'
            have HB4 := Lib.hid p4.below
            generalize p4.W = w4 at HB4 ⊢
            clear k0 k1
            go_wp2_with fail
            go_meet
            exact ⟨rfl, rfl, rfl, HB4.out⟩
          · have e : b16 = false := by rw [← E16.out]; unfold hasS; simp [p1, p2]
            subst e
            have q1 := decide_eq_true p1
            have q2 := decide_eq_false p2
            refine wp_region_from (by kernel_rfl) (by kernel_rfl) ?_
            iterate 5 (go_big_quiet_step ((go_at_call 14; exact calls_from (cX _))))
            repeat (go_big_quiet_step ((go_at_call 14; exact calls_from (cY _))))
            refine wpQuiet_nil ?_
            intro _ hw'
            obtain ⟨p4, rfl⟩ := hw'
            have HB4 := Lib.hid p4.below
            generalize p4.W = w4 at HB4 ⊢
            clear k0 k1
            go_wp2_with fail
            go_meet
            exact ⟨rfl, rfl, rfl, HB4.out⟩
        · have e : b16 = false := by rw [← E16.out]; unfold hasS; simp [p1]
          subst e
          have q1 := decide_eq_false p1
          refine wp_region_from (by kernel_rfl) (by kernel_rfl) ?_
          iterate 5 (go_big_quiet_step ((go_at_call 14; exact calls_from (cX _))))
          repeat (go_big_quiet_step ((go_at_call 14; exact calls_from (cY _))))
          refine wpQuiet_nil ?_
          intro _ hw'
          obtain ⟨p4, rfl⟩ := hw'
          have HB4 := Lib.hid p4.below
          generalize p4.W = w4 at HB4 ⊢
          clear k0 k1
          go_wp2_with fail
          go_meet
          exact ⟨rfl, rfl, rfl, HB4.out⟩
      case rest =>
        obtain ⟨rfl, rfl, rfl, HBX⟩ := hcut
        have HN8 := Lib.hid (HN7.out.on HBX.out)
        have HZ8 := Lib.hid (bt HZ7.out HBX.out)
        clear HN7 HZ7 HBX
        go_upto_region 8 with fail
        go_cut [137] from 88 to 136 (fun q wx => q = .bool false ∧ Hid (Below wc.heap.size wc wx))
        case first =>
          have HY8 := Lib.hid (Below.refl wc.heap.size wc)
          cases b13 <;> cases b14 <;> cases b15 <;> cases b16
          all_goals first | exact absurd (r1.out rfl) (by decide) | exact absurd (r2.out rfl) (by decide) | skip
          all_goals
            have KP := fun W h => rhas_any A9 c9 P no W (HS9.out.below h) (by omega)
            have KT := fun W h => rhas_any A10 c10 T no W (HS10.out.below h) (by omega)
            have KB := fun W h => rhas_any A11 c11 Bo no W (HS11.out.below h) (by omega)
            have KO := fun W h => rhas_any A12 c12 Ot no W (HS12.out.below h) (by omega)
            rw [hP.out] at KP; rw [hT1.out] at KT; rw [hB1.out] at KB; rw [hO1.out] at KO
            set_option linter.unusedSimpArgs false in
            simp only [Bool.and_true, Bool.and_false, Bool.or_true, Bool.or_false, Bool.true_and, Bool.false_and, Bool.true_or, Bool.false_or, Bool.not_true, Bool.not_false, Bool.and_self, Bool.or_self] at KP KT KB KO
            have KP := Lib.hid KP; have KT := Lib.hid KT; have KB := Lib.hid KB; have KO := Lib.hid KO
            clear r1 r2 hU
            go_wp2_with fail
            refine (KP.out _ HZ8.out).mono ?_
            rintro e w9 ⟨rfl, hb9⟩
            have HN9 := Lib.hid (HN8.out.on hb9)
            have HZ9 := Lib.hid (bt HZ8.out hb9)
            have HY9 := Lib.hid (bt HY8.out hb9)
            clear hb9 HN8 HZ8 HY8
            go_wp2_with fail
            refine (KT.out _ HZ9.out).mono ?_
            rintro e w10 ⟨rfl, hb10⟩
            have HN10 := Lib.hid (HN9.out.on hb10)
            have HZ10 := Lib.hid (bt HZ9.out hb10)
            have HY10 := Lib.hid (bt HY9.out hb10)
            clear hb10 HN9 HZ9 HY9
            go_wp2_with fail
            refine (KB.out _ HZ10.out).mono ?_
            rintro e w11 ⟨rfl, hb11⟩
            have HN11 := Lib.hid (HN10.out.on hb11)
            have HZ11 := Lib.hid (bt HZ10.out hb11)
            have HY11 := Lib.hid (bt HY10.out hb11)
            clear hb11 HN10 HZ10 HY10
            go_wp2_with fail
            refine (KO.out _ HZ11.out).mono ?_
            rintro e w12 ⟨rfl, hb12⟩
            have HN12 := Lib.hid (HN11.out.on hb12)
            have HZ12 := Lib.hid (bt HZ11.out hb12)
            have HY12 := Lib.hid (bt HY11.out hb12)
            clear hb12 HN11 HZ11 HY11
            go_wp2_with fail
            go_meet
            exact ⟨rfl, HY12.out⟩
        case rest =>
          obtain ⟨rfl, HBX⟩ := hcut
          have HN9 := Lib.hid (HN8.out.on HBX.out)
          have HZ9 := Lib.hid (bt HZ8.out HBX.out)
          clear HN8 HZ8 HBX r1 r2 hP hT1 hB1 hO1
          go_wp2_with fail
          refine (others_any A12 c12 Ot _ (HS12.out.below HZ9.out) (by omega)).mono ?_
          rw [oo.out]
          rintro e w10 ⟨AA, cA, rfl, hSA, hb10, _⟩
          have HN10 := Lib.hid (HN9.out.on hb10)
          have HZ10 := Lib.hid (bt HZ9.out hb10)
          clear hb10 HN9 HZ9
          have SA := Lib.hid hSA
          clear hSA
          go_wp2_with fail
          refine (same_any AA A cA c xs xs _ SA.out (HA.out.below HN10.out.ctx.below) (by omega)).mono ?_
          rw [same_self]
          rintro e w11 ⟨rfl, hb11⟩
          have HN11 := Lib.hid (HN10.out.on hb11)
          have HZ11 := Lib.hid (bt HZ10.out hb11)
          have SA := Lib.hid (SA.out.below hb11)
          clear hb11 HN10 HZ10
          go_wp2_with fail
          refine (both_any B A d c ys xs _ (HB0.out.below HN11.out.ctx.below) (HA.out.below HN11.out.ctx.below) lYX (by omega)).mono ?_
          rw [bc.out]
          rintro e w12 ⟨AB, cB, rfl, hSB, hb12, _⟩
          have HN12 := Lib.hid (HN11.out.on hb12)
          have HZ12 := Lib.hid (bt HZ11.out hb12)
          clear hb12 HN11 HZ11
          have SB := Lib.hid hSB
          clear hSB
          go_wp2_with fail
          refine (same_any A11 AB c11 cB Bo Bo _ (HS11.out.below HZ12.out) SB.out (by omega)).mono ?_
          rw [same_self]
          rintro e w13 ⟨rfl, hb13⟩
          have HN13 := Lib.hid (HN12.out.on hb13)
          have HZ13 := Lib.hid (bt HZ12.out hb13)
          have SB := Lib.hid (SB.out.below hb13)
          clear hb13 HN12 HZ12
          have k0 := HN13.out.c0
          have k1 := HN13.out.c1
          go_wp2_with fail
          clear k0 k1
          refine (take_any A9 c9 P s1 s2 _ (HS9.out.below HZ13.out) (by omega)).mono ?_
          rw [tp.out]
          rintro e w14 ⟨AC, cC, rfl, hSC, hb14, _⟩
          have HN14 := Lib.hid (HN13.out.on hb14)
          have HZ14 := Lib.hid (bt HZ13.out hb14)
          clear hb14 HN13 HZ13
          have SC := Lib.hid hSC
          clear hSC
          go_wp2_with fail
          refine (same_any AC A10 cC c10 T T _ SC.out (HS10.out.below HZ14.out) (by omega)).mono ?_
          rw [same_self]
          rintro e w15 ⟨rfl, hb15⟩
          have HN15 := Lib.hid (HN14.out.on hb15)
          have HZ15 := Lib.hid (bt HZ14.out hb15)
          have SC := Lib.hid (SC.out.below hb15)
          clear hb15 HN14 HZ14
          go_wp2_with fail
          refine (others_any A c xs _ (HA.out.below HN15.out.ctx.below) (by omega)).mono ?_
          rw [EO.out]
          rintro e w16 ⟨AD, cD, rfl, hSD, hb16, _⟩
          have HN16 := Lib.hid (HN15.out.on hb16)
          have HZ16 := Lib.hid (bt HZ15.out hb16)
          clear hb16 HN15 HZ15
          have SD := Lib.hid hSD
          clear hSD
          go_wp2_with fail
          refine (others_any B d ys _ (HB0.out.below HN16.out.ctx.below) (by omega)).mono ?_
          rw [EY.out]
          rintro e w17 ⟨AE, cE, rfl, hSE, hb17, _⟩
          have HN17 := Lib.hid (HN16.out.on hb17)
          have HZ17 := Lib.hid (bt HZ16.out hb17)
          have SD := Lib.hid (SD.out.below hb17)
          clear hb17 HN16 HZ16
          have SE := Lib.hid hSE
          clear hSE
          go_wp2_with fail
          refine (both_any AD AE cD cE Ot Oy _ SD.out SE.out lOY (by omega)).mono ?_
          rw [EV.out]
          rintro e w18 ⟨AF, cF, rfl, hSF, hb18, _⟩
          have HN18 := Lib.hid (HN17.out.on hb18)
          have HZ18 := Lib.hid (bt HZ17.out hb18)
          have SD := Lib.hid (SD.out.below hb18)
          have SE := Lib.hid (SE.out.below hb18)
          clear hb18 HN17 HZ17
          have SF := Lib.hid hSF
          clear hSF
          go_wp2_with fail
          refine (others_any AF cF V _ SF.out (by omega)).mono ?_
          rw [EU.out]
          rintro e w19 ⟨AG, cG, rfl, hSG, hb19, _⟩
          have HN19 := Lib.hid (HN18.out.on hb19)
          have HZ19 := Lib.hid (bt HZ18.out hb19)
          have SF := Lib.hid (SF.out.below hb19)
          clear hb19 HN18 HZ18
          have SG := Lib.hid hSG
          clear hSG
          go_wp2_with fail
          refine (rhas_any AG cG U no _ SG.out (by omega)).mono ?_
          rw [hU.out]
          rintro e w20 ⟨rfl, hb20⟩
          have HN20 := Lib.hid (HN19.out.on hb20)
          have HZ20 := Lib.hid (bt HZ19.out hb20)
          have SG := Lib.hid (SG.out.below hb20)
          clear hb20 HN19 HZ19
          clear hU
          have HAW := Lib.hid (awake_any m _ HN20.out.ctx.tab HN20.out.ctx.len)
          cases b14 <;> cases b15
          all_goals
            go_wp2_with fail
            refine HAW.out.mono ?_
            rintro e wz ⟨rfl, hbz⟩
            go_wp2_with fail
            go_ret
            exact ⟨rfl, bt HN20.out.ctx.below hbz⟩

theorem nums_any (A B : Option Addr) (c d : Nat) (xs ys : List Sp) (s1 s2 no : Int) (m : Int) (w : World) (hA : Spans w A xs) (hB : Spans w B ys) (hT : Tab w) (hm : w.cell? ⟨0, 0, none⟩ = some (.int .i64 m)) :
    Calls Tryd.prog 4 #[.slice A xs.length c, .slice B ys.length d, .agg #[.int .i64 s1, .int .i64 s2], .int .i64 no] w fun e w' => e = .returned (.bool true) ∧ Below w.heap.size w w' := by
  by_cases h : 60 < xs.length ∨ 60 < ys.length
  · exact nums_long A B c d xs ys s1 s2 no m w hT hm h
  · by_cases h' : May xs ∧ May ys
    · exact nums_may A B c d xs ys s1 s2 no m w hA hB hT hm (by omega) (by omega) h'.1 h'.2
    · exact nums_no A B c d xs ys s1 s2 no m w hA hB hT hm (by omega) (by omega) (by by_cases hx : May xs; exact Or.inr fun hy => h' ⟨hx, hy⟩; exact Or.inl hx)
end Go.Proofs.YtbbaaaomncegiaaDoor
