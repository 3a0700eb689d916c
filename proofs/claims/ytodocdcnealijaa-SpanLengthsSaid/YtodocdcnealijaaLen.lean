/-
  gatefoldlaw02.SpanLengths, walked: it returns true for any span and any spans; below the heap's size at the call nothing turns.
-/
import Derived.Test.YtodocdcnealijaaNum
import Derived.Deep.RegionHeld3
namespace Go.Proofs.Ytodocdcnealijaa
open Go.RowKit Go.Proofs.Spn

theorem tot_map_snoc (f : Sp → Sp) (l : List Sp) (k : Nat) (x : Sp) (h : l[k]? = some x) : tot ((l.take (k + 1)).map f) = tot ((l.take k).map f) + lenS (f x) := by
  rw [take_snoc l k x h, List.map_append, tot_append]; simp [tot]
theorem tot_snoc (l : List Sp) (k : Nat) (x : Sp) (h : l[k]? = some x) : tot (l.take (k + 1)) = tot (l.take k) + lenS x := by
  rw [take_snoc l k x h, tot_append]; simp [tot]
theorem tot_take_le (l : List Sp) (k : Nat) : tot (l.take k) ≤ tot l := by
  have := tot_append (l.take k) (l.drop k)
  rw [List.take_append_drop] at this
  have := tot_nonneg (l.drop k)
  omega
theorem apart_snoc (l : List Sp) (k : Nat) (x : Sp) (h : l[k]? = some x) (hp : (l.take k).Pairwise ApartS) (ha : ∀ y, y ∈ l.take k → ApartS x y) : (l.take (k + 1)).Pairwise ApartS := by
  rw [take_snoc l k x h, List.pairwise_append]
  exact ⟨hp, List.pairwise_singleton _ _, fun a ha' b hb => by simp at hb; subst hb; exact apart_symm (ha a ha')⟩
theorem meets_le (s : Sp) (l : List Sp) (ha : l.Pairwise ApartS) : tot (l.map (meetS s)) ≤ lenS s := by
  have := tot_less s l ha
  have := tot_nonneg (rLess s l)
  omega
theorem meet_bound (s x m : Sp) (h : meetS s x = m) : m.2 - m.1 ≤ (if s.2 - s.1 ≤ 0 then 0 else s.2 - s.1) := by
  subst h
  unfold meetS
  split
  · simp only; split <;> omega
  · simp only; split <;> omega

theorem gen_world {F G : World → Prop} (W : World) (h : F W) (hg : ∀ W, F W → G W) : G W := hg W h
theorem keep16 {w5 W W' : World} {H M bb o : Nat} {s1 s2 x1 x2 m1 m2 : Int} (hq : Below W.heap.size W W')
    (h : W.cell? ⟨H, 0, none⟩ = some (.int .i64 s1) ∧ W.cell? ⟨H, 1, none⟩ = some (.int .i64 s2) ∧ W.cell? ⟨bb, o, none⟩ = some (.int .i64 x1) ∧ W.cell? ⟨bb, o + 1, none⟩ = some (.int .i64 x2) ∧ W.cell? ⟨M, 0, none⟩ = some (.int .i64 m1) ∧ W.cell? ⟨M, 1, none⟩ = some (.int .i64 m2) ∧ Hid (Below w5.heap.size w5 W)) :
    W'.cell? ⟨H, 0, none⟩ = some (.int .i64 s1) ∧ W'.cell? ⟨H, 1, none⟩ = some (.int .i64 s2) ∧ W'.cell? ⟨bb, o, none⟩ = some (.int .i64 x1) ∧ W'.cell? ⟨bb, o + 1, none⟩ = some (.int .i64 x2) ∧ W'.cell? ⟨M, 0, none⟩ = some (.int .i64 m1) ∧ W'.cell? ⟨M, 1, none⟩ = some (.int .i64 m2) ∧ Hid (Below w5.heap.size w5 W') := by
  obtain ⟨h1, h2, h3, h4, h5, h6, h7⟩ := h
  have k : ∀ {a : Addr} {v : Value}, W.cell? a = some v → W'.cell? a = some v := fun h => (hq.cell (World.block_lt_of_cell? _ _ h)).trans h
  exact ⟨k h1, k h2, k h3, k h4, k h5, k h6, bt h7.out hq⟩

set_option linter.unusedSimpArgs false in
set_option maxRecDepth 100000 in
set_option maxHeartbeats 16000000 in
theorem lengths_any (s1 s2 : Int) (A : Option Addr) (c : Nat) (xs : List Sp) (w : World) (hA : Spans w A xs) (hn : xs.length ≤ 60) (hs : nearB (s1, s2) = true) :
    Calls Try.prog 6 #[.agg #[.int .i64 s1, .int .i64 s2], .slice A xs.length c] w fun e w' => e = .returned (.bool true) ∧ Below w.heap.size w w' := by
  have HA := Lib.hid hA
  clear hA
  have CE := Lib.hid (fun W => awake_any W)
  have cN := fun W => near_any s1 s2 W
  rw [hs] at cN
  have hb0 : s2 - s1 ≤ 4611686018427387904 := by
    unfold nearB at hs
    simp only [decide_eq_true_eq] at hs
    omega
  have CS := Lib.hid (fun W => len_any s1 s2 W (by omega))
  have hls : lenS (s1, s2) ≤ 4611686018427387904 := by unfold lenS; split <;> omega
  have hn' : decide ((60 : Int) < (xs.length : Int)) = false := by rw [decide_eq_false_iff_not]; omega
  clear hs
  go_enter Try.func6, Try.ntmps6
  go_wp2_with fail
  refine (cN _).mono ?_
  rintro e w1 ⟨rfl, hb1⟩
  have T1 := Lib.hid ((Two.new w s1 s2).below hb1 (by simp))
  have B1 := Lib.hid (bt (bl (Below.refl _ _) _) hb1)
  have hz1 : w.heap.size < w1.heap.size := T1.out.lt
  clear hb1 cN
  go_wp2_with fail
  go_loopw [5, 6] (fun t i wr => ∃ (k : Nat) (t' : Int), k ≤ xs.length ∧ i = .int .i64 k ∧ t = .int .i64 t' ∧ 0 ≤ t' ∧ t' ≤ 4611686018427387904 ∧ w.heap.size < wr.heap.size ∧ Hid (Below w.heap.size w wr) ∧ Hid (Two wr w.heap.size s1 s2) ∧ Hid ((xs.take k).Pairwise ApartS) ∧ Hid (tot ((xs.take k).map (meetS (s1, s2))) = t'))
    (fun _ i _ => xs.length - (intOf i).toNat)
  case atStart => exact ⟨0, 0, Nat.zero_le _, rfl, rfl, by omega, by omega, hz1, B1.out, T1.out, List.Pairwise.nil, rfl⟩
  case round =>
    obtain ⟨k, t, hk, rfl, rfl, ht0, ht1, hsz, hnx, hT, hP, hM⟩ := hrel
    by_cases hlt : k < xs.length
    · obtain ⟨⟨x1, x2⟩, hx⟩ : ∃ x, xs[k]? = some x := ⟨_, List.getElem?_eq_getElem hlt⟩
      obtain ⟨bb, off, rfl, hbb, c1, c2⟩ := HA.out.below hnx.out k _ hx
      simp only at c1 c2
      have HX := Lib.hid hx
      clear hx
      have cN := fun W => near_any x1 x2 W
      cases hne : nearB (x1, x2) with
      | false =>
        rw [hne] at cN
        clear hne
        go_wp2_with fail
        refine (cN _).mono ?_
        rintro e w2 ⟨rfl, hb2⟩
        go_wp2_with fail
        refine (CE.out _).mono ?_
        rintro e w3 ⟨rfl, hb3⟩
        go_wp2_with fail
        go_ret
        exact ⟨rfl, bt (bt hnx.out hb2) hb3⟩
      | true =>
        rw [hne] at cN
        clear hne
        go_wp2_with fail
        refine (cN _).mono ?_
        rintro e w2 ⟨rfl, hb2⟩
        have B2 := Lib.hid (bt hnx.out hb2)
        have T2 := Lib.hid (hT.out.below hb2 hsz)
        have hz2 : w.heap.size < w2.heap.size := Nat.lt_of_lt_of_le hsz hb2.size
        have c1' := Lib.hid ((hb2.cell (p := ⟨bb, off + k * 2, none⟩) hbb).trans c1)
        have c2' := Lib.hid ((hb2.cell (p := ⟨bb, off + k * 2 + 1, none⟩) hbb).trans c2)
        have hbb2 : bb < w2.heap.size := Nat.lt_of_lt_of_le hbb hb2.size
        clear hb2 c1 c2 cN hnx hT hsz hbb
        go_wp2_with fail
        go_loopw [7] (fun i wr => ∃ (j : Nat), j ≤ k ∧ i = .int .i64 j ∧ w2.heap.size ≤ wr.heap.size ∧ Hid (Below w2.heap.size w2 wr) ∧ Hid (∀ y, y ∈ xs.take j → ApartS (x1, x2) y))
          (fun i _ => k - (intOf i).toNat)
        case atStart => exact ⟨0, Nat.zero_le _, rfl, Nat.le_refl _, Below.refl _ _, fun y hy => by simp at hy⟩
        case round =>
          obtain ⟨j, hj, rfl, hsz, hnx, hAp⟩ := hrel
          have d1 := (hnx.out.cell (p := ⟨bb, off + k * 2, none⟩) hbb2).trans c1'.out
          have d2 := (hnx.out.cell (p := ⟨bb, off + k * 2 + 1, none⟩) hbb2).trans c2'.out
          by_cases hlt2 : j < k
          · obtain ⟨⟨y1, y2⟩, hy⟩ : ∃ x, xs[j]? = some x := ⟨_, List.getElem?_eq_getElem (by omega)⟩
            obtain ⟨_, _, ee, _, e1, e2⟩ := HA.out.below (B2.out.trans (hnx.out.mono B2.out.size)) j _ hy
            cases ee
            simp only at e1 e2
            have cA := fun W => apart_any x1 x2 y1 y2 W
            have HY := Lib.hid hy
            clear hy
            have g1 := From.cell d1
            have g2 := From.cell d2
            have g3 := From.cell e1
            have g4 := From.cell e2
            have hjn : (j : Int) < (xs.length : Int) := by omega
            by_cases hap : meetS (x1, x2) (y1, y2) = (0, 0)
            · rw [show decide (meetS (x1, x2) (y1, y2) = (0, 0)) = true by simpa using hap] at cA
              have AP : Hid (∀ y, y ∈ xs.take (j + 1) → ApartS (x1, x2) y) := fun y hy => by
                rw [take_snoc xs j _ HY.out] at hy
                rcases List.mem_append.1 hy with hy | hy
                · exact hAp.out y hy
                · simp at hy; subst hy; exact hap
              clear hap
              go_wp2_with fail
              refine wp_region_from (by kernel_rfl) (by kernel_rfl) ?_
              repeat (go_big_quiet_step ((go_at_call 21; exact calls_from (cA _))))
              refine wpQuiet_nil ?_
              intro _ hw'
              obtain ⟨p9, rfl⟩ := hw'
              have hb9 := p9.below
              generalize p9.W = w9 at hb9 ⊢
              clear g1 g2 g3 g4
              go_wp2_with fail
              go_roundw
              case rel => exact ⟨j + 1, by omega, by go_num, Nat.le_trans hsz hb9.size, hnx.out.trans (hb9.mono hsz), AP.out⟩
              case measure => simp [intOf]; omega
            · rw [show decide (meetS (x1, x2) (y1, y2) = (0, 0)) = false by simpa using hap] at cA
              clear hap
              go_wp2_with fail
              refine wp_region_from (by kernel_rfl) (by kernel_rfl) ?_
              repeat (go_big_quiet_step ((go_at_call 21; exact calls_from (cA _))))
              refine wpQuiet_nil ?_
              intro _ hw'
              obtain ⟨p9, rfl⟩ := hw'
              have hb9 := p9.below
              generalize p9.W = w9 at hb9 ⊢
              clear g1 g2 g3 g4
              go_wp2_with fail
              refine (CE.out _).mono ?_
              rintro e w3 ⟨rfl, hb3⟩
              go_wp2_with fail
              go_ret
              exact ⟨rfl, bt (B2.out.trans ((hnx.out.trans (hb9.mono hsz)).mono B2.out.size)) hb3⟩
          · have hjk : j = k := by omega
            have hap2 := hAp.out
            rw [hjk] at hap2
            have hP2 := Lib.hid (apart_snoc xs k _ HX.out hP.out hap2)
            clear hjk hap2 hAp
            have hlt2' : ¬ (j : Int) < (k : Int) := by omega
            obtain ⟨⟨m1, m2⟩, hm⟩ : ∃ m, meetS (s1, s2) (x1, x2) = m := ⟨_, rfl⟩
            have hmb := meet_bound (s1, s2) (x1, x2) (m1, m2) hm
            simp only at hmb
            have cM := fun W => meet_any s1 s2 x1 x2 W
            have hts := tot_map_snoc (meetS (s1, s2)) xs k _ HX.out
            have hle := meets_le (s1, s2) (xs.take (k + 1)) hP2.out
            rw [hm] at cM hts
            rw [hM.out] at hts
            have hm0 := lenS_nonneg (m1, m2)
            have hmb2 : m2 - m1 ≤ 9223372036854775807 := by
              split at hmb <;> omega
            have cL := fun W => len_any m1 m2 W hmb2
            have hAm := (apart_iff (s1, s2) (x1, x2))
            unfold ApartS at hAm
            rw [hm] at hAm
            have cA := fun W => apart_any s1 s2 x1 x2 W
            rw [hm] at cA
            obtain ⟨v, hv⟩ : ∃ v, lenS (m1, m2) = v := ⟨_, rfl⟩
            rw [hv] at cL hts hm0 hAm
            have HV := Lib.hid hts
            have htv : t + v ≤ 4611686018427387904 := by omega
            clear hm hts hle hmb hmb2 hv
            have W3 := Lib.hid (B2.out.trans (hnx.out.mono B2.out.size))
            have T3 := Lib.hid (T2.out.below hnx.out hz2)
            have hz3 : w.heap.size < wr.heap.size := by omega
            have hbb3 : bb < wr.heap.size := by omega
            obtain ⟨t1, t2, _, _⟩ := T3.out.facts
            go_wp2_with fail
            go_region_held3 (fun w' => w'.cell? ⟨w.heap.size, 0, none⟩ = some (.int .i64 s1) ∧ w'.cell? ⟨w.heap.size, 1, none⟩ = some (.int .i64 s2) ∧ w'.cell? ⟨bb, off + k * 2, none⟩ = some (.int .i64 x1) ∧ w'.cell? ⟨bb, off + k * 2 + 1, none⟩ = some (.int .i64 x2))
              (first
                | (exact ⟨t1, t2, d1, d2⟩)
                | (exact ⟨a1, a2, a3, a4⟩)
                | go_keep
                | (exact ⟨((World.cell?_alloc_lt w4 _ ⟨w.heap.size, 0, none⟩ (Nat.lt_of_lt_of_le hz3 hq2.size)).trans a1), ((World.cell?_alloc_lt w4 _ ⟨w.heap.size, 1, none⟩ (Nat.lt_of_lt_of_le hz3 hq2.size)).trans a2), ((World.cell?_alloc_lt w4 _ ⟨bb, off + k * 2, none⟩ (Nat.lt_of_lt_of_le hbb3 hq2.size)).trans a3), ((World.cell?_alloc_lt w4 _ ⟨bb, off + k * 2 + 1, none⟩ (Nat.lt_of_lt_of_le hbb3 hq2.size)).trans a4)⟩)
                | (have ne1 : wr.heap.size ≠ w.heap.size := by omega
                   have ne2 : wr.heap.size ≠ bb := by omega
                   exact ⟨(World.cell?_setCell_far _ _ _ _ ne1).trans ((World.cell?_setCell_far _ _ _ _ ne1).trans a1), (World.cell?_setCell_far _ _ _ _ ne1).trans ((World.cell?_setCell_far _ _ _ _ ne1).trans a2), (World.cell?_setCell_far _ _ _ _ ne2).trans ((World.cell?_setCell_far _ _ _ _ ne2).trans a3), (World.cell?_setCell_far _ _ _ _ ne2).trans ((World.cell?_setCell_far _ _ _ _ ne2).trans a4)⟩))
              (first
                | (go_at_call 14
                   refine (cM _).mono ?_
                   rintro e w4 ⟨rfl, hq⟩
                   first
                     | (have Z := (Two.new wr 0 0).drew.below hq (by simp)
                        obtain ⟨z1, z2, z3, z4⟩ := Z.facts
                        have hq2 : Below wr.heap.size wr w4 := (bl (Below.refl _ _) _).drew.trans (Below.mono hq (by simp))
                        have a1 := (hq2.cell (p := ⟨w.heap.size, 0, none⟩) hz3).trans t1
                        have a2 := (hq2.cell (p := ⟨w.heap.size, 1, none⟩) hz3).trans t2
                        have a3 := (hq2.cell (p := ⟨bb, off + k * 2, none⟩) hbb3).trans d1
                        have a4 := (hq2.cell (p := ⟨bb, off + k * 2 + 1, none⟩) hbb3).trans d2)
                     | (have hq2 : Below wr.heap.size wr w4 := ⟨hq.os, hq.tape, hq.output, hq.size, hq.block⟩
                        have a1 := (hq2.cell (p := ⟨w.heap.size, 0, none⟩) hz3).trans t1
                        have a2 := (hq2.cell (p := ⟨w.heap.size, 1, none⟩) hz3).trans t2
                        have a3 := (hq2.cell (p := ⟨bb, off + k * 2, none⟩) hbb3).trans d1
                        have a4 := (hq2.cell (p := ⟨bb, off + k * 2 + 1, none⟩) hbb3).trans d2)))
            all_goals
              first
                | (refine gen_world (F := fun W => Below wr.heap.size wr W ∧ Two W w4.heap.size m1 m2) (G := Exit.then _ _ _ _) _ ⟨bl hq2 _, Two.new w4 m1 m2⟩ ?_
                   rintro w5 ⟨hb5, Z5⟩
                   have B5 := Lib.hid hb5
                   have hM5 := hq2.size
                   clear hq hq2 a1 a2 a3 a4 hb5
                   generalize hE : w4.heap.size = M at Z5 hM5 ⊢
                   clear hE)
                | (refine gen_world (F := fun W => Below wr.heap.size wr W ∧ Two W wr.heap.size m1 m2) (G := Exit.then _ _ _ _) _ ⟨(hq2.setCell (Nat.le_refl _) _).setCell (Nat.le_refl _) _, (Z.set0 m1).set1 m2⟩ ?_
                   rintro w5 ⟨hb5, Z5⟩
                   have B5 := Lib.hid hb5
                   clear hq hq2 a1 a2 a3 a4 Z z1 z2 z3 z4 hb5
                   generalize hE : wr.heap.size = M at Z5 ⊢
                   have hM5 : wr.heap.size ≤ M := Nat.le_of_eq hE
                   clear hE)
            all_goals
              have hz5 : wr.heap.size ≤ w5.heap.size := B5.out.size
              have hz6 : w.heap.size < w5.heap.size := by omega
              have T5 := Lib.hid (T3.out.below B5.out hz3)
              have e1 := (B5.out.cell (p := ⟨bb, off + k * 2, none⟩) hbb3).trans d1
              have e2 := (B5.out.cell (p := ⟨bb, off + k * 2 + 1, none⟩) hbb3).trans d2
              have W5 := Lib.hid (bt W3.out B5.out)
              clear t1 t2 d1 d2 B5 W3 T3 
              obtain ⟨t1, t2, _, _⟩ := T5.out.facts
              obtain ⟨n1, n2, _, _⟩ := Z5.facts
              go_wp2_with fail
              refine (cL _).mono ?_
              rintro e w6 ⟨rfl, hb6⟩
              have hz7 : w.heap.size < w6.heap.size := Nat.lt_of_lt_of_le hz6 hb6.size
              have T6 := Lib.hid (T5.out.below hb6 hz6)
              have Z6 := Lib.hid (Z5.below hb6 Z5.lt)
              have f1 := (hb6.cell (p := ⟨bb, off + k * 2, none⟩) (by simp only; omega)).trans e1
              have f2 := (hb6.cell (p := ⟨bb, off + k * 2 + 1, none⟩) (by simp only; omega)).trans e2
              have W6 := Lib.hid (bt W5.out hb6)
              clear t1 t2 e1 e2 n1 n2 hb6 Z5 T5 W5
              obtain ⟨t1, t2, _, _⟩ := T6.out.facts
              obtain ⟨n1, n2, _, _⟩ := Z6.out.facts
              obtain ⟨⟨h1, h2⟩, hh⟩ : ∃ h, hullS [(s1, s2), (x1, x2)] = h := ⟨_, rfl⟩
              have hw1 := hull_within [(s1, s2), (x1, x2)] (s1, s2) (by simp)
              have hw2 := hull_within [(s1, s2), (x1, x2)] (x1, x2) (by simp)
              rw [hh] at hw1 hw2
              have cW1 := fun W => within_any s1 s2 h1 h2 W
              have cW2 := fun W => within_any x1 x2 h1 h2 W
              rw [hw1] at cW1
              rw [hw2] at cW2
              have cH := fun W => hull_any (some ⟨W.heap.size, 0, none⟩) 2 [(s1, s2), (x1, x2)] _ (spans_new W _) (by simp)
              rw [hh] at cH
              clear hw1 hw2 hh
              obtain ⟨bv, hbv⟩ : ∃ bv : Bool, (v == 0) = bv := ⟨_, rfl⟩
              have hAd : decide ((m1, m2) = (0, 0)) = bv := by rw [← hbv]; exact decide_eq_decide.2 hAm
              rw [hAd] at cA
              clear hAd hAm
              have hW0 : Hid (Below w6.heap.size w6 w6.drew) := (Below.refl _ _).drew
              go_wp2_with fail
              cases bv
              all_goals
                go_region_held3 (fun w' => w'.cell? ⟨w.heap.size, 0, none⟩ = some (.int .i64 s1) ∧ w'.cell? ⟨w.heap.size, 1, none⟩ = some (.int .i64 s2) ∧ w'.cell? ⟨bb, off + k * 2, none⟩ = some (.int .i64 x1) ∧ w'.cell? ⟨bb, off + k * 2 + 1, none⟩ = some (.int .i64 x2) ∧ w'.cell? ⟨M, 0, none⟩ = some (.int .i64 m1) ∧ w'.cell? ⟨M, 1, none⟩ = some (.int .i64 m2) ∧ Hid (Below w6.heap.size w6 w'))
                  (first
                    | (exact ⟨t1, t2, f1, f2, n1, n2, hW0⟩)
                    | (go_split_ands; exact keep16 hq ⟨by assumption, by assumption, by assumption, by assumption, by assumption, by assumption, by assumption⟩)
                    | (go_split_ands; exact keep16 (bl (Below.refl _ _) _) ⟨by assumption, by assumption, by assumption, by assumption, by assumption, by assumption, by assumption⟩))
                  (first
                    | (go_at_call 21; ((with_reducible refine (cA _).mono ?_); rintro e w9 ⟨rfl, hq⟩))
                    | (go_at_call 18; ((with_reducible refine (cL _).mono ?_); rintro e w9 ⟨rfl, hq⟩))
                    | (go_at_call 8; (refine (cH _).mono ?_; rintro e w9 ⟨rfl, hq⟩))
                    | (go_at_call 15; ((with_reducible refine (cW1 _).mono ?_); rintro e w9 ⟨rfl, hq⟩))
                    | (go_at_call 15; ((with_reducible refine (cW2 _).mono ?_); rintro e w9 ⟨rfl, hq⟩)))
              all_goals (try go_split_ands)
              all_goals
                have BZ : Hid (Below w6.heap.size w6 w9) := by first | assumption | exact bt (Hid.out (by assumption)) hq
                have RB := Lib.hid (bt W6.out BZ.out)
                have RT := Lib.hid (T6.out.below BZ.out hz7)
                have rz : w.heap.size < w9.heap.size := Nat.lt_of_lt_of_le hz7 BZ.out.size
                clear hq
                go_wp2_with fail
                go_roundw
                case rel => exact ⟨k + 1, t + v, by omega, by go_num, rfl, by omega, htv, rz, RB.out, RT.out, hP2.out, HV.out⟩
                case measure => simp [intOf]; omega
    · have hek : k = xs.length := by omega
      have hMM : tot (xs.map (meetS (s1, s2))) = t := by have := hM.out; rw [hek, List.take_length] at this; exact this
      have hPP : xs.Pairwise ApartS := by have := hP.out; rw [hek, List.take_length] at this; exact this
      have htl := tot_less (s1, s2) xs hPP
      rw [hMM] at htl
      have hlt' : ¬ (k : Int) < (xs.length : Int) := by omega
      have cL := fun (W : World) (hS : Spans W A xs) => less_sp s1 s2 A c xs W hS (by omega)
      have hwi : ∀ y, y ∈ rLess (s1, s2) xs → y.2 - y.1 ≤ 4611686018427387904 := fun y hy => by
        obtain ⟨h1, h2⟩ := left_within (s1, s2) xs y hy
        unfold withinS at h2
        simp only [Bool.or_eq_true, Bool.and_eq_true, decide_eq_true_eq] at h2
        omega
      have hll : (rLess (s1, s2) xs).length ≤ 9223372036854775807 := by
        have := rFold_length xs (s1, s2)
        rcases rLess_eq (s1, s2) xs with ⟨_, _, _, e⟩ | ⟨_, e⟩ <;> rw [e] <;> simp <;> omega
      generalize rLess (s1, s2) xs = L at cL hwi htl hll
      have hnn := tot_nonneg L
      have CL := Lib.hid cL
      have HW := Lib.hid hwi
      have HT := Lib.hid htl
      have BZ := Lib.hid hnx.out
      have TZ := Lib.hid hT.out
      have hLt : t + tot L ≤ 4611686018427387904 := by omega
      obtain ⟨t1, t2, _, _⟩ := hT.out.facts
      clear cL hwi htl hMM hPP hek hnx hT hM hP
      go_wp2_with fail
      refine (CL.out _ (HA.out.below BZ.out)).mono ?_
      rintro e w2 ⟨A5, c5, rfl, hS5, hb2, _⟩
      have S5 := Lib.hid hS5
      have B2 := Lib.hid (bt BZ.out hb2)
      have T2 := Lib.hid (TZ.out.below hb2 hsz)
      have hz2 : w.heap.size < w2.heap.size := Nat.lt_of_lt_of_le hsz hb2.size
      clear hS5 hb2 t1 t2 BZ TZ
      go_wp2_with fail
      go_loopw [5, 10] (fun q i wr => ∃ (j : Nat) (u : Int), j ≤ L.length ∧ i = .int .i64 j ∧ q = .int .i64 u ∧ 0 ≤ u ∧ u ≤ 4611686018427387904 ∧ w2.heap.size ≤ wr.heap.size ∧ Hid (Below w2.heap.size w2 wr) ∧ Hid (u = t + tot (L.take j)))
        (fun _ i _ => L.length - (intOf i).toNat)
      case atStart => exact ⟨0, t, Nat.zero_le _, rfl, rfl, ht0, ht1, Nat.le_refl _, Below.refl _ _, by show t = t + tot (L.take 0); simp [tot]⟩
      case round =>
        obtain ⟨j, u, hj, rfl, rfl, hu0, hu1, hsz2, hnx, hU⟩ := hrel
        by_cases hlt : j < L.length
        · obtain ⟨⟨y1, y2⟩, hy⟩ : ∃ y, L[j]? = some y := ⟨_, List.getElem?_eq_getElem hlt⟩
          obtain ⟨b5, off5, rfl, hb5, e1, e2⟩ := S5.out.below hnx.out j _ hy
          simp only at e1 e2
          have hyb := HW.out (y1, y2) (List.mem_iff_getElem?.2 ⟨j, hy⟩)
          simp only at hyb
          have cY := fun W => len_any y1 y2 W (by omega)
          have hts := tot_snoc L j _ hy
          have htk := tot_take_le L (j + 1)
          obtain ⟨v, hv⟩ : ∃ v, lenS (y1, y2) = v := ⟨_, rfl⟩
          have hv0 := lenS_nonneg (y1, y2)
          rw [hv] at cY hts hv0
          have hu := hU.out
          have hb0 : 0 ≤ u + v := by omega
          have hb1 : u + v ≤ 4611686018427387904 := by omega
          have HV : Hid (u + v = t + tot (L.take (j + 1))) := by show _ = _; omega
          clear hy hts htk hv hu hyb
          go_wp2_with fail
          refine (cY _).mono ?_
          rintro e w3 ⟨rfl, hb3⟩
          go_wp2_with fail
          go_roundw
          case rel => exact ⟨j + 1, u + v, by omega, by go_num, rfl, hb0, hb1, Nat.le_trans hsz2 hb3.size, hnx.out.trans (hb3.mono hsz2), HV.out⟩
          case measure => simp [intOf]; omega
        · have hu := hU.out
          rw [show j = L.length by omega, List.take_length] at hu
          have hfin : u = lenS (s1, s2) := by rw [hu, ← HT.out]; omega
          have HF := Lib.hid hfin
          have W3 := Lib.hid (B2.out.trans (hnx.out.mono B2.out.size))
          have T3 := Lib.hid (T2.out.below hnx.out hz2)
          obtain ⟨t1, t2, _, _⟩ := T3.out.facts
          have hlt3 : ¬ (j : Int) < (L.length : Int) := by omega
          have CS2 : Hid (∀ W, Calls Try.prog 18 #[.agg #[.int .i64 s1, .int .i64 s2]] W fun e w' => e = .returned (.int .i64 u) ∧ Below W.heap.size W w') := by
            intro W; rw [HF.out]; exact CS.out W
          clear hu hfin
          go_wp2_with fail
          refine (CS2.out _).mono ?_
          rintro e w4 ⟨rfl, hb4⟩
          go_wp2_with fail
          refine (CE.out _).mono ?_
          rintro e w5 ⟨rfl, hb5⟩
          go_wp2_with fail
          go_ret
          exact ⟨rfl, bt (bt W3.out hb4) hb5⟩

theorem lengths_far (s1 s2 : Int) (A : Option Addr) (n c : Nat) (w : World) (h : 60 < n ∨ nearB (s1, s2) = false) (hm : n ≤ 9223372036854775807) :
    Calls Try.prog 6 #[.agg #[.int .i64 s1, .int .i64 s2], .slice A n c] w fun e w' => e = .returned (.bool true) ∧ Below w.heap.size w w' := by
  have cE := fun W => awake_any W
  by_cases hn : 60 < n
  · have hn' : decide ((60 : Int) < (n : Int)) = true := by rw [decide_eq_true_iff]; omega
    clear h
    go_enter Try.func6, Try.ntmps6
    go_wp2_with fail
    refine (cE _).mono ?_
    rintro e w' ⟨rfl, hq⟩
    go_wp2_with fail
    go_ret
    exact ⟨rfl, bt (bl (Below.refl _ _) _) hq⟩
  · have hn' : decide ((60 : Int) < (n : Int)) = false := by rw [decide_eq_false_iff_not]; omega
    have cN := fun W => near_any s1 s2 W
    rw [h.resolve_left hn] at cN
    clear h
    go_enter Try.func6, Try.ntmps6
    go_wp2_with fail
    refine (cN _).mono ?_
    rintro e w1 ⟨rfl, hb1⟩
    go_wp2_with fail
    refine (cE _).mono ?_
    rintro e w' ⟨rfl, hq⟩
    go_wp2_with fail
    go_ret
    exact ⟨rfl, bt (bt (bl (Below.refl _ _) _) hb1) hq⟩

theorem lengths_all (s1 s2 : Int) (A : Option Addr) (c : Nat) (xs : List Sp) (w : World) (hA : Spans w A xs) (hm : xs.length ≤ 9223372036854775807) :
    Calls Try.prog 6 #[.agg #[.int .i64 s1, .int .i64 s2], .slice A xs.length c] w fun e w' => e = .returned (.bool true) ∧ Below w.heap.size w w' := by
  by_cases hn : xs.length ≤ 60
  · cases hs : nearB (s1, s2) with
    | true => exact lengths_any s1 s2 A c xs w hA hn hs
    | false => exact lengths_far s1 s2 A _ c w (.inr hs) hm
  · exact lengths_far s1 s2 A _ c w (.inl (by omega)) hm
end Go.Proofs.Ytodocdcnealijaa
