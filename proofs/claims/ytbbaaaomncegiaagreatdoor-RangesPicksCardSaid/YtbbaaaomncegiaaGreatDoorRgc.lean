/-
  ranges.joined: spans, put in order, those that meet, or are side by side, as one, in memory of the call's own.
-/
import Derived.Test.YtbbaaaomncegiaaGreatDoorRgb
import Derived.Test.YtbbaaaomncegiaaGreatDoorOwn
import Derived.Test.YtbbaaaomncegiaaGreatDoorQtl
import Derived.Deep.AppendLies
import Derived.IntWalk
namespace Go.Proofs.YtbbaaaomncegiaaGreatDoor
open Go.RowKit Go.Proofs.Spn Go.Proofs.Rng

theorem joined1_tells : Tells 49 emp := by
  intro x1 x2 W
  go_enter Tryz.func49, Tryz.ntmps49
  go_wp2
  go_ret
  exact ⟨rfl, bl (Below.refl _ _) _⟩
theorem own_last {w : World} {base g cap : Nat} {pre : List Sp} {p : Sp} (h : w.ownsRow base 24 2 (.slice (some ⟨g, 0, none⟩) (pre.length + 1) cap) (pre.length + 1) (flatS (pre ++ [p]))) :
    w.cell? ⟨g, pre.length * 2, none⟩ = some (.int .i64 p.1) ∧ w.cell? ⟨g, pre.length * 2 + 1, none⟩ = some (.int .i64 p.2) := by
  obtain ⟨f1, f2⟩ := flatS_one (pre ++ [p]) pre.length p (by simp)
  exact ⟨(h.cellAt _ (by omega)).trans f1, (h.cellAt _ (by omega)).trans f2⟩
theorem flatS_set (pre : List Sp) (p : Sp) (u : Int) : (flatS (pre ++ [p])).set (pre.length * 2 + 1) (.int .i64 u) = flatS (pre ++ [(p.1, u)]) := by
  rw [flatS_append, flatS_append, ← flatS_length pre]
  rw [List.set_append_right _ _ (by omega)]
  simp [flatS]

set_option maxHeartbeats 8000000 in
set_option maxRecDepth 100000 in
theorem joined_any (base : Nat) (A : Option Addr) (cap : Nat) (xs : List Sp) (w : World) (hO : Own2 base w A xs) (hbase : base ≤ w.heap.size) (hn : xs.length ≤ cap) (hcap : cap ≤ 9223372036854775807) (hsz : xs.length ≤ 1000000) :
    Calls Tryz.prog 25 #[.slice A xs.length cap] w fun e w' => ∃ v, e = .returned v ∧ w'.ownsRow w.heap.size 24 2 v (joinS xs).length (flatS (joinS xs)) ∧ Below base w w' := by
  obtain ⟨i0, hi, hz0, hz1, hz2⟩ := info_parts Tryz.infoSpan
  have e1 : ∀ args w, (callFunc 49 args).run Tryz.prog w = .ok (.enter 49 args) w := enters_of Tryz.func49 (by kernel_rfl) rfl
  have e2 : ∀ args w, (callFunc 51 args).run Tryz.prog w = .ok (.enter 51 args) w := enters_of Tryz.func51 (by kernel_rfl) rfl
  have E1 := Lib.hid e1
  have E2 := Lib.hid e2
  have HO := Lib.hid hO
  obtain ⟨R, hR⟩ : ∃ R, joinS xs = R := ⟨_, rfl⟩
  have HP1 : Hid (∀ d : List Sp, d.Perm (xs.filter fun x => !emp x) → Rising d → mergeS d = R) := fun d hp hr => (joinS_of hp hr).trans hR
  rw [hR]
  clear hO e1 e2 hR
  go_enter Tryz.func25, Tryz.ntmps25
  go_wp2_with fail
  refine (delete_own _ _ E1.out joined1_tells base A cap xs w HO.out hbase hn hcap).mono ?_
  rintro e w2 ⟨rfl, hO2, hb2⟩
  have hf := List.length_filter_le (fun x => !emp x) xs
  have HP0 : Hid (∀ d : List Sp, d.Perm (xs.filter fun x => !emp x) → Rising d → mergeS d = R) := HP1.out
  clear HP1
  have HN0 : Hid (∀ x, x ∈ (xs.filter fun x => !emp x) → True) := fun _ _ => trivial
  generalize (xs.filter fun x => !emp x) = ys at hO2 hf HP0 HN0 ⊢
  have HO2 := Lib.hid hO2
  clear hO2 HN0
  go_wp2_with fail
  refine (sort_own _ E2.out byA_joined base A cap ys w2 HO2.out (by have := hb2.size; omega) (by omega)).mono ?_
  rintro e w3 ⟨rfl, zs, hp, hris, hO3, hb3⟩
  have hzl : ys.length = zs.length := hp.length_eq.symm
  have HJ := Lib.hid (HP0.out zs hp hris)
  have HB3 := Lib.hid (hb2.trans hb3)
  have hw3 : w.heap.size ≤ w3.heap.size := (hb2.trans hb3).size
  have HS3 := Lib.hid hO3.spans
  rw [hzl] at hf ⊢
  clear hp hris hO3 hb2 hb3 HO2 E1 E2 HP0 hzl
  go_wp2_with fail
  go_loopw [3, 13] (fun v i wr => ∃ (k : Nat) (o : List Sp), k ≤ zs.length ∧ i = .int .i64 k ∧ o.length ≤ k ∧ Hid (o = (zs.take k).foldl addS []) ∧ Hid (wr.ownsRow w3.heap.size 24 2 v o.length (flatS o)) ∧ Hid (Below w3.heap.size w3 wr))
    (fun _ i _ => zs.length - (intOf i).toNat)
  case atStart => exact ⟨0, [], Nat.zero_le _, rfl, Nat.le_refl _, rfl, World.ownsRow_nil _ _ _ _, Below.refl _ _⟩
  case round =>
    obtain ⟨k, o, hk, rfl, hol, HE, HOW, HB⟩ := hrel
    by_cases hlt : k < zs.length
    · obtain ⟨⟨x1, x2⟩, hx⟩ : ∃ x, zs[k]? = some x := ⟨_, List.getElem?_eq_getElem hlt⟩
      obtain ⟨b, off, rfl, hb, c1, c2⟩ := HS3.out.below HB.out k _ hx
      simp only at c1 c2
      have hlt' : (k : Int) < (zs.length : Int) := by omega
      have HE2 : Hid ((zs.take (k + 1)).foldl addS [] = addS o (x1, x2)) := by
        show _ = _
        rw [take_snoc zs k _ hx, List.foldl_append, ← HE.out]
        rfl
      have HBW := Lib.hid (bl HB.out (.cells #[.int .i64 x1, .int .i64 x2] 24))
      have HOW1 := Lib.hid (HOW.out.alloc (.cells #[.int .i64 x1, .int .i64 x2] 24))
      clear hx HE
      rcases List.eq_nil_or_concat o with rfl | ⟨pre, p, e⟩
      · obtain ⟨A', c', hv, hrest⟩ := Spans.of_own (xs := []) HOW.out
        clear hrest
        subst hv
        simp only [List.length_nil]
        have HE3 : Hid (([] : List Sp) ++ [(x1, x2)] = (zs.take (k + 1)).foldl addS []) := by
          show _ = _
          rw [HE2.out]
          rfl
        clear HE2
        go_wp2_with fail
        refine gen_world (F := fun W => Blk W wr.heap.size 24 #[.int .i64 x1, .int .i64 x2] ∧ Hid (W.ownsRow w3.heap.size 24 2 (.slice A' 0 c') ([] : List Sp).length (flatS ([] : List Sp))) ∧ Hid (Below w3.heap.size w3 W)) _ ⟨Blk.new wr _ _, HOW1, HBW⟩ ?_
        rintro W ⟨hP, HOW2, HB2⟩
        have g0 := fun p : From W => (hP.keep p.below).cell 0
        have g1 := fun p : From W => (hP.keep p.below).cell 1
        refine wp_region_from (by kernel_rfl) (by kernel_rfl) ?_
        repeat (go_big_quiet_step (fail))
        refine wpQuiet_nil ?_
        intro _ hw'
        obtain ⟨p, rfl⟩ := hw'
        have HP3 := Lib.hid (hP.keep p.below)
        have HOW3 := Lib.hid (ob HOW2.out p.below)
        have HB3' := Lib.hid (bt HB2.out p.below)
        generalize p.W = W2 at HP3 HOW3 HB3' ⊢
        clear g0 g1 hP HOW2 HB2 HOW HB HBW HOW1 p
        obtain ⟨y0, y1⟩ := Two.cell HP3.out
        go_wp2_with (at_builtin; refine wpList_append_spans (by rfl) _ _ (by rfl) (by rfl) w3.heap.size (.slice A' 0 c') ([] : List Sp) (by rfl) (HOW3.out.alloc _) (some ⟨W2.heap.size, 0, none⟩) 1 1 [(x1, x2)] (by rfl) rfl (spans_new W2 [(x1, x2)]) (by simp only [List.length_nil, List.length_cons]; omega) (bl HB3'.out _).size ?_)
        intro v5 w5 own5 grow5
        have HB5 := Lib.hid ((bl HB3'.out _).grown grow5 (bl HB3'.out (.cells #[.int .i64 x1, .int .i64 x2] 24)).size fun j hj => (HOW3.out.lt j hj).1)
        have HO5 : Hid (w5.ownsRow w3.heap.size 24 2 v5 (([] : List Sp) ++ [(x1, x2)]).length (flatS (([] : List Sp) ++ [(x1, x2)]))) := by
          show World.ownsRow _ _ _ _ _ _ _
          simpa using own5
        clear own5 grow5
        go_wp2_with fail
        go_roundw
        case rel => exact ⟨k + 1, ([] : List Sp) ++ [(x1, x2)], by omega, by go_num, by simp, HE3, HO5, HB5⟩
        case measure => simp [intOf]; omega
      · rw [List.concat_eq_append] at e
        subst e
        obtain ⟨g, cp, hvs, hbg, _⟩ := HOW.out.form (by simp)
        subst hvs
        obtain ⟨p1, p2⟩ := p
        simp only [List.length_append, List.length_singleton] at hol HOW HOW1 ⊢
        have e1 : IntKind.i64.wrap ((pre.length : Int) + 1 - 1) = pre.length := by rw [show (pre.length : Int) + 1 - 1 = pre.length by omega]; exact IntWalk.i64_in _ (by omega)
        have e2 : (0 : Int) ≤ (pre.length : Int) := by omega
        have e3 : (pre.length : Int) < (pre.length : Int) + 1 := by omega
        have e4 : pre.length < pre.length + 1 := by omega
        have e5 : (0 : Int) < (pre.length : Int) + 1 := by omega
        have e6 : decide ((0 : Int) < (pre.length : Int) + 1) = true := decide_eq_true e5
        have hl := own_last HOW1.out
        simp only at hl
        have hl2 := fun (W : World) (h : Hid (W.ownsRow w3.heap.size 24 2 (.slice (some ⟨g, 0, none⟩) (pre.length + 1) cp) (pre.length + 1) (flatS (pre ++ [(p1, p2)])))) => own_last h.out
        simp only at hl2
        have HL2 := Lib.hid hl2
        clear hl hl2
        rw [addS_snoc] at HE2
        by_cases hq : x1 ≤ p2
        · have hq' : decide (x1 ≤ p2) = true := decide_eq_true hq
          have HE3 : Hid (pre ++ [(p1, max p2 x2)] = (zs.take (k + 1)).foldl addS []) := by
            show _ = _
            rw [HE2.out, if_pos hq]
          clear HE2
          go_wp2_with fail
          refine gen_world (F := fun W => Blk W wr.heap.size 24 #[.int .i64 x1, .int .i64 x2] ∧ Hid (W.ownsRow w3.heap.size 24 2 (.slice (some ⟨g, 0, none⟩) (pre.length + 1) cp) (pre.length + 1) (flatS (pre ++ [(p1, p2)]))) ∧ Hid (Below w3.heap.size w3 W)) _ ⟨Blk.new wr _ _, HOW1, HBW⟩ ?_
          rintro W ⟨hP, HOW2, HB2⟩
          have g0 := fun p : From W => (hP.keep p.below).cell 0
          have g1 := fun p : From W => (hP.keep p.below).cell 1
          obtain ⟨k0, k1⟩ := HL2.out W HOW2
          have g2 := From.cell k1
          refine wp_region_from (by kernel_rfl) (by kernel_rfl) ?_
          repeat (go_big_quiet_step (fail))
          refine wpQuiet_nil ?_
          intro _ hw'
          obtain ⟨p, rfl⟩ := hw'
          have HP3 := Lib.hid (hP.keep p.below)
          have HOW3 := Lib.hid (ob HOW2.out p.below)
          have HB3' := Lib.hid (bt HB2.out p.below)
          generalize p.W = W2 at HP3 HOW3 HB3' ⊢
          clear g0 g1 g2 k0 k1 hP HOW2 HB2 HOW HB HBW HOW1 p
          obtain ⟨y0, y1⟩ := Two.cell HP3.out
          go_wp2_with fail
          obtain ⟨k0, k1⟩ := HL2.out W2 HOW3
          have z0 := From.cell k1
          have z1 := From.cell y1
          refine wp_region_from_tail 14 (by kernel_rfl) (by kernel_rfl) ?_
          simp only [List.take_succ_cons, List.take_zero, List.drop_succ_cons, List.drop_zero]
          repeat (go_big_quiet_step (fail))
          refine wpQuiet_nil ?_
          intro _ hw'
          obtain ⟨p, rfl⟩ := hw'
          have HOW4 := Lib.hid (ob HOW3.out p.below)
          have HB4 := Lib.hid (bt HB3'.out p.below)
          obtain ⟨k2, k3⟩ := HL2.out p.W HOW4
          have hfr := HOW4.out.frozenAt (pre.length * 2 + 1)
          have hgw := (HOW4.out.lt g rfl).1
          clear z0 z1 k0 k1 y0 y1
          generalize p.W = W4 at HOW4 HB4 k2 k3 hfr ⊢
          clear p
          go_wp2_with fail
          have HO5 : Hid ((W4.setCell ⟨g, pre.length * 2 + 1, none⟩ (.int .i64 (max p2 x2))).ownsRow w3.heap.size 24 2 (.slice (some ⟨g, 0, none⟩) (pre.length + 1) cp) (pre ++ [(p1, max p2 x2)]).length (flatS (pre ++ [(p1, max p2 x2)]))) := by
            have := (World.ownsRow.stored HOW4.out (pre.length * 2 + 1) (.int .i64 (max p2 x2))).1
            rw [flatS_set] at this
            show World.ownsRow _ _ _ _ _ _ _
            simpa using this
          have HB5 := Lib.hid (bset HB4.out (p := ⟨g, pre.length * 2 + 1, none⟩) hgw (.int .i64 (max p2 x2)))
          go_roundw
          case rel => exact ⟨k + 1, pre ++ [(p1, max p2 x2)], by omega, by go_num, by simp; omega, HE3, HO5, HB5⟩
          case measure => simp [intOf]; omega
        · have hq' : decide (x1 ≤ p2) = false := decide_eq_false hq
          have HE3 : Hid (pre ++ [(p1, p2)] ++ [(x1, x2)] = (zs.take (k + 1)).foldl addS []) := by
            show _ = _
            rw [HE2.out, if_neg hq]
          clear HE2
          go_wp2_with fail
          refine gen_world (F := fun W => Blk W wr.heap.size 24 #[.int .i64 x1, .int .i64 x2] ∧ Hid (W.ownsRow w3.heap.size 24 2 (.slice (some ⟨g, 0, none⟩) (pre.length + 1) cp) (pre.length + 1) (flatS (pre ++ [(p1, p2)]))) ∧ Hid (Below w3.heap.size w3 W)) _ ⟨Blk.new wr _ _, HOW1, HBW⟩ ?_
          rintro W ⟨hP, HOW2, HB2⟩
          have g0 := fun p : From W => (hP.keep p.below).cell 0
          have g1 := fun p : From W => (hP.keep p.below).cell 1
          obtain ⟨k0, k1⟩ := HL2.out W HOW2
          have g2 := From.cell k1
          refine wp_region_from (by kernel_rfl) (by kernel_rfl) ?_
          repeat (go_big_quiet_step (fail))
          refine wpQuiet_nil ?_
          intro _ hw'
          obtain ⟨p, rfl⟩ := hw'
          have HP3 := Lib.hid (hP.keep p.below)
          have HOW3 := Lib.hid (ob HOW2.out p.below)
          have HB3' := Lib.hid (bt HB2.out p.below)
          generalize p.W = W2 at HP3 HOW3 HB3' ⊢
          clear g0 g1 g2 k0 k1 hP HOW2 HB2 HOW HB HBW HOW1 p
          obtain ⟨y0, y1⟩ := Two.cell HP3.out
          go_wp2_with (at_builtin; refine wpList_append_spans (by rfl) _ _ (by rfl) (by rfl) w3.heap.size (.slice (some ⟨g, 0, none⟩) (pre.length + 1) cp) (pre ++ [(p1, p2)]) (by rfl) (by have := HOW3.out.alloc (.cells #[.int .i64 x1, .int .i64 x2] 24); simpa using this) (some ⟨W2.heap.size, 0, none⟩) 1 1 [(x1, x2)] (by rfl) rfl (spans_new W2 [(x1, x2)]) (by simp only [List.length_nil, List.length_append, List.length_cons]; omega) (bl HB3'.out _).size ?_)
          intro v5 w5 own5 grow5
          have HB5 := Lib.hid ((bl HB3'.out _).grown grow5 (bl HB3'.out (.cells #[.int .i64 x1, .int .i64 x2] 24)).size fun j hj => (HOW3.out.lt j hj).1)
          have HO5 : Hid (w5.ownsRow w3.heap.size 24 2 v5 (pre ++ [(p1, p2)] ++ [(x1, x2)]).length (flatS (pre ++ [(p1, p2)] ++ [(x1, x2)]))) := by
            show World.ownsRow _ _ _ _ _ _ _
            simpa using own5
          clear own5 grow5
          go_wp2_with fail
          go_roundw
          case rel => exact ⟨k + 1, (pre ++ [(p1, p2)]) ++ [(x1, x2)], by omega, by go_num, by simp; omega, HE3, HO5, HB5⟩
          case measure => simp [intOf]; omega
    · have hlt' : ¬ (k : Int) < (zs.length : Int) := by omega
      have HR : Hid (o = R) := by
        show _ = _
        rw [HE.out, List.take_of_length_le (by omega)]
        exact HJ.out
      clear HE HJ
      go_wp2_with fail
      go_ret
      refine ⟨u3, rfl, ?_, HB3.out.trans (HB.out.mono (by omega))⟩
      rw [← HR.out]
      exact ownsRow_base HOW.out hw3
end Go.Proofs.YtbbaaaomncegiaaGreatDoor
