/-
  gatefoldref02.Less returns what is left of a span without others; below the heap's size at the call nothing turns.
-/
import Derived.Test.YtodocdcnealijaaLes
import Derived.Test.YtodocdcnealijaaRfa
import Derived.WalkSpells
import Derived.StillTactics
import Derived.OwnWalk
import Derived.Laws.Pointers
import Derived.Deep.RegionHeld3
import Derived.Deep.AppendLies
namespace Go.Proofs.Ytodocdcnealijaa
open Go.RowKit Go.Proofs.Spn

theorem row_new (w : World) (x y : Int) : (w.alloc (.cells #[.int .i64 x, .int .i64 y] 23)).ownsRow w.heap.size 23 2 (.slice (some ⟨w.heap.size, 0, none⟩) 1 1) [(x, y)].length (flatS [(x, y)]) :=
  ⟨rfl, .inr ⟨w.heap.size, 1, #[.int .i64 x, .int .i64 y], rfl, Nat.le_refl _, heap_alloc_new w _, Nat.le_refl _, by unfold maxLen; omega, rfl, rfl⟩⟩
theorem gb_of {w w' : World} (h : Below w.heap.size w w') : w.grownBy w' none := gb_below (gb_refl w none) h
theorem fold_snoc (l : List Sp) (k : Nat) (x : Sp) (out : List Sp) (h : l[k]? = some x) : (l.take (k + 1)).foldl rStep out = rStep ((l.take k).foldl rStep out) x := by
  rw [take_snoc l k x h, List.foldl_append]; rfl

set_option maxRecDepth 100000 in
set_option maxHeartbeats 8000000 in
theorem rless_any (s1 s2 : Int) (A : Option Addr) (c : Nat) (xs : List Sp) (w : World) (hA : Spans w A xs) (hn : (xs.length + 1) * 64 ≤ 140737488355328) :
    Calls Try.prog 12 #[.agg #[.int .i64 s1, .int .i64 s2], .slice A xs.length c] w fun e w' =>
      ∃ v', e = .returned v' ∧ w'.ownsRow w.heap.size 23 2 v' (rLess (s1, s2) xs).length (flatS (rLess (s1, s2) xs)) ∧ Below w.heap.size w w' := by
  obtain ⟨i0, hi, hz0, hz1, hz2⟩ := info_parts Try.infoSpan
  have HA := Lib.hid hA
  clear hA
  go_enter Try.func12, Try.ntmps12
  go_wp2_with fail
  go_loopw [5, 6] (fun v i wr => ∃ (k : Nat) (out : List Sp), k ≤ xs.length ∧ i = .int .i64 k ∧ out.length ≤ k + 1 ∧ wr.ownsRow w.heap.size 23 2 v out.length (flatS out) ∧ Below w.heap.size w wr ∧ Hid (out = (xs.take k).foldl rStep [(s1, s2)]))
    (fun _ i _ => xs.length - (intOf i).toNat)
  case atStart =>
    refine ⟨0, [(s1, s2)], Nat.zero_le _, rfl, Nat.le_refl _, ownsRow_base ?_ (show w.heap.size ≤ w.heap.size + 1 by omega), bl (bl (Below.refl _ _) _) _, rfl⟩
    have := row_new (w.alloc (.cells #[.int .i64 s1, .int .i64 s2] 23)) s1 s2
    simpa using this
  case round =>
    obtain ⟨k, out, hk, rfl, hol, hown, hnx, HO⟩ := hrel
    by_cases hlt : k < xs.length
    · obtain ⟨⟨x1, x2⟩, hx⟩ : ∃ x, xs[k]? = some x := ⟨_, List.getElem?_eq_getElem hlt⟩
      obtain ⟨b, off, rfl, hb, d1, d2⟩ := HA.out.below hnx k _ hx
      simp only at d1 d2
      have ST := Lib.hid (fold_snoc xs k (x1, x2) [(s1, s2)] hx)
      have HX := Lib.hid hx
      clear hx
      have hN := fun W => rnone_any x1 x2 W
      by_cases hg : x2 ≤ x1
      · have hg' : decide (x2 ≤ x1) = true := by simpa using hg
        rw [hg'] at hN
        clear hg'
        go_wp2_with fail
        refine (hN _).mono ?_
        rintro e w4 ⟨rfl, hb4⟩
        have O4 := Lib.hid (ob hown hb4)
        clear hown
        go_wp2_with fail
        go_roundw
        case rel => exact ⟨k + 1, out, by omega, by go_num, by omega, O4.out, bt hnx hb4, by show out = _; rw [ST.out, ← HO.out]; exact (if_pos hg).symm⟩
        case measure => simp [intOf]; omega
      · have hg' : decide (x2 ≤ x1) = false := by simpa using hg
        rw [hg'] at hN
        clear hg'
        obtain ⟨A5, c5, rfl, hS5, hl5, hm5, _, hA5⟩ := Spans.of_own hown
        go_wp2_with fail
        refine (hN _).mono ?_
        rintro e w4 ⟨rfl, hb4⟩
        have S4 : Hid (Spans w4 A5 out) := hS5.below hb4
        have B4 : Hid (Below w.heap.size w w4) := bt hnx hb4
        have hz4 : w.heap.size ≤ w4.heap.size := B4.out.size
        clear hown hS5 hA5 d1 d2 hb4 hb hnx
        go_wp2_with fail
        obtain ⟨wo, rfl⟩ : ∃ wo : World, wo = wr := ⟨_, rfl⟩
        go_loopw [7, 8] (fun v i wr => ∃ (j : Nat) (nx : List Sp), j ≤ out.length ∧ i = .int .i64 j ∧ nx.length ≤ 2 * j ∧ w4.heap.size ≤ wr.heap.size ∧ wr.ownsRow w4.heap.size 23 2 v nx.length (flatS nx) ∧ Below w4.heap.size w4 wr ∧ Hid (nx = pieces (x1, x2) (out.take j)))
          (fun _ i _ => out.length - (intOf i).toNat)
        case atStart => exact ⟨0, [], Nat.zero_le _, rfl, Nat.le_refl _, Nat.le_refl _, World.ownsRow_nil _ _ _ _, Below.refl _ _, rfl⟩
        case round =>
          obtain ⟨j, nx, hj, rfl, hnl, hsz, hown, hnx, HN⟩ := hrel
          by_cases hlt2 : j < out.length
          · obtain ⟨⟨o1, o2⟩, ho⟩ : ∃ x, out[j]? = some x := ⟨_, List.getElem?_eq_getElem hlt2⟩
            obtain ⟨b', off', rfl, hb'0, _⟩ := S4.out j _ ho
            obtain ⟨_, _, ee, hb', e1, e2⟩ := S4.out.below hnx j _ ho
            cases ee
            have hbw : b < w.heap.size := by
              obtain ⟨_, _, ee, hbw, _⟩ := HA.out k _ HX.out
              cases ee; exact hbw
            obtain ⟨_, _, ee, hb, d1, d2⟩ := HA.out.below (B4.out.trans (hnx.mono hz4)) k _ HX.out
            cases ee
            simp only at d1 d2 e1 e2
            have HOX := Lib.hid ho
            clear ho
            have ag : u7.ownBlock ≠ some b' := fun e => by have := (hown.lt _ e).1; omega
            have ak : u7.ownBlock ≠ some b := fun e => by have := (hown.lt _ e).1; omega
            have hj0 : (0 : Int) ≤ (j : Int) := Int.natCast_nonneg _
            have hj1 : (j : Int) < (out.length : Int) := by omega
            have hk0 : (0 : Int) ≤ (k : Int) := Int.natCast_nonneg _
            have hk1 : (k : Int) < (xs.length : Int) := by omega
            have b1 : nx.length + 2 ≤ maxLen := by unfold maxLen; omega
            have b2 : (nx.length + 2) * 16 ≤ 140737488355328 := by omega
            go_wp2_with fail
            go_region_held3 (fun w' => w'.cell? ⟨b', off' + j * 2, none⟩ = some (.int .i64 o1) ∧ w'.cell? ⟨b', off' + j * 2 + 1, none⟩ = some (.int .i64 o2) ∧ w'.cell? ⟨b, off + k * 2, none⟩ = some (.int .i64 x1) ∧ w'.cell? ⟨b, off + k * 2 + 1, none⟩ = some (.int .i64 x2))
              (first
                | go_keep
                | (go_split_ands
                   refine ⟨?_, ?_, ?_, ?_⟩
                   · (rw [hgrow.cell_far _ (by simp; omega) (Ne.symm ag)]; assumption)
                   · (rw [hgrow.cell_far _ (by simp; omega) (Ne.symm ag)]; assumption)
                   · (rw [hgrow.cell_far _ (by simp; omega) (Ne.symm ak)]; assumption)
                   · (rw [hgrow.cell_far _ (by simp; omega) (Ne.symm ak)]; assumption)))
              ((refine step_append_lies _ (by rfl) _ _ _ (by rfl) w4.heap.size 23 i0 _ 2 16 Try.underlying24 hi hz0 hz1 hz2 rfl (by omega) u7 nx.length (flatS nx) (by rfl) ((hown.alloc _).drew) ⟨wr.heap.size, 0, none⟩ 2 2 [.int .i64 o1, .int .i64 (min o2 x1), .int .i64 (max o1 x2), .int .i64 o2] (by rfl) (by rfl) (World.news_of_block (cs := #[.int .i64 o1, .int .i64 (min o2 x1), .int .i64 (max o1 x2), .int .i64 o2]) (t := 23) (fr := (0, 0)) (heap_alloc_new wr _)) (by simp [Value.oneCell']) (by omega) b1 b2 (by simp; omega) (wr.heap.size + 1) (by simp) ?_; intro gg cap w1 hown1 hgrow hat hlt'))
            all_goals (go_wp2_with fail)
            all_goals
              have HN2 : Hid (nx ++ [(o1, min o2 x1), (max o1 x2, o2)] = pieces (x1, x2) (out.take (j + 1))) := by
                show _ = _
                rw [take_snoc out j _ HOX.out, pieces_append, pieces_one, ← HN.out]
              have O8 : Hid (w1.ownsRow w4.heap.size 23 2 (.slice (some ⟨gg, 0, none⟩) (nx.length + 2) cap) (nx ++ [(o1, min o2 x1), (max o1 x2, o2)]).length (flatS (nx ++ [(o1, min o2 x1), (max o1 x2, o2)]))) := by
                show World.ownsRow _ _ _ _ _ _ _
                rw [flatS_append, List.length_append]; exact hown1
              have B8 : Hid (Below w4.heap.size w4 w1) := ((hnx.alloc (by omega) _).drew).grown hgrow (by simp; omega) (fun j hj => (hown.lt j hj).1)
              clear hown1 hgrow hat hown hnx
              go_roundw
              case rel => exact ⟨j + 1, nx ++ [(o1, min o2 x1), (max o1 x2, o2)], by omega, by go_num, by simp; omega, B8.out.size, O8.out, B8.out, HN2.out⟩
              case measure => simp [intOf]; omega
          · have ej : j = out.length := by omega
            have hnp : nx = pieces (x1, x2) out := by have := HN.out; rw [ej, List.take_length] at this; exact this
            have HNP := Lib.hid hnp
            clear hnp ej HN
            obtain ⟨A7, c7, rfl, hS7, hl7, hm7, _, _⟩ := Spans.of_own hown
            have S7 := Lib.hid hS7
            have B7 := Lib.hid (B4.out.trans (hnx.mono hz4))
            have hz7 : w.heap.size ≤ wr.heap.size := B7.out.size
            clear hown hnx hS7
            have hnl2 : nx.length ≤ 2 * (xs.length + 1) := by omega
            go_wp2_with fail
            obtain ⟨w7, rfl⟩ : ∃ w7 : World, w7 = wr := ⟨_, rfl⟩
            go_loopw [5, 9] (fun v i wr => ∃ (l : Nat) (ot : List Sp), l ≤ nx.length ∧ i = .int .i64 l ∧ ot.length ≤ l ∧ w7.heap.size ≤ wr.heap.size ∧ wr.ownsRow w7.heap.size 23 2 v ot.length (flatS ot) ∧ Below w7.heap.size w7 wr ∧ Hid (ot = (nx.take l).filter fun o => !emp o))
              (fun _ i _ => nx.length - (intOf i).toNat)
            case atStart => exact ⟨0, [], Nat.zero_le _, rfl, Nat.le_refl _, Nat.le_refl _, World.ownsRow_nil _ _ _ _, Below.refl _ _, rfl⟩
            case round =>
              obtain ⟨l, ot, hl, rfl, hol', hsz', hown, hnx, HN⟩ := hrel
              by_cases hlt3 : l < nx.length
              · obtain ⟨⟨y1, y2⟩, hy⟩ : ∃ x, nx[l]? = some x := ⟨_, List.getElem?_eq_getElem hlt3⟩
                obtain ⟨b7, off7, rfl, hb7, f1, f2⟩ := S7.out.below hnx l _ hy
                simp only at f1 f2
                have hM := fun W => rnone_any y1 y2 W
                have SN := take_snoc nx l _ hy
                by_cases hg2 : y2 ≤ y1
                · have hg' : decide (y2 ≤ y1) = true := by simpa using hg2
                  rw [hg'] at hM
                  clear hg'
                  have HN2 : Hid (ot = (nx.take (l + 1)).filter fun o => !emp o) := by
                    show _ = _
                    rw [SN, List.filter_append, ← HN.out]; simp [emp, hg2]
                  clear SN hy
                  go_wp2_with fail
                  refine (hM _).mono ?_
                  rintro e w8 ⟨rfl, hb8⟩
                  have O8 := Lib.hid (ob hown hb8)
                  clear hown
                  go_wp2_with fail
                  go_roundw
                  case rel => exact ⟨l + 1, ot, by omega, by go_num, by omega, by have := hb8.size; omega, O8.out, hnx.trans (hb8.mono hsz'), HN2.out⟩
                  case measure => simp [intOf]; omega
                · have hg' : decide (y2 ≤ y1) = false := by simpa using hg2
                  rw [hg'] at hM
                  clear hg'
                  have HN2 : Hid (ot ++ [(y1, y2)] = (nx.take (l + 1)).filter fun o => !emp o) := by
                    show _ = _
                    rw [SN, List.filter_append, ← HN.out]; simp [emp, hg2]
                  clear SN hy
                  go_wp2_with fail
                  refine (hM _).mono ?_
                  rintro e w8 ⟨rfl, hb8⟩
                  have O8 := Lib.hid (ob hown hb8)
                  have B8 := Lib.hid (hnx.trans (hb8.mono hsz'))
                  have hz8 : wr.heap.size ≤ w8.heap.size := hb8.size
                  have f1' := (hb8.cell (p := ⟨b7, off7 + l * 2, none⟩) hb7).trans f1
                  have f2' := (hb8.cell (p := ⟨b7, off7 + l * 2 + 1, none⟩) hb7).trans f2
                  clear hown hnx f1 f2 hb8
                  go_wp2_with (at_builtin; refine wpList_append_own _ rfl _ _ 24 rfl w7.heap.size 23 i0 (.agg #[.int .i64 0, .int .i64 0]) 2 16 Try.underlying24 hi hz0 hz1 hz2 rfl (by decide) _ _ _ rfl (O8.out.alloc _) ⟨w8.heap.size, 0, none⟩ 1 1 [.int .i64 y1, .int .i64 y2] rfl ?c0 ?c1 ?c2 ?c3 ?c4 ?c5 ?_)
                  case c0 => rfl
                  case c1 => exact cells_new _ _ _
                  case c2 => intro u hu; simp at hu; rcases hu with rfl | rfl <;> rfl
                  case c3 => unfold maxLen; omega
                  case c4 => omega
                  case c5 => simp; omega
                  intro v9 w9 hown9 hgrow9 _
                  have O9 : Hid (w9.ownsRow w7.heap.size 23 2 v9 (ot ++ [(y1, y2)]).length (flatS (ot ++ [(y1, y2)]))) := by
                    show World.ownsRow _ _ _ _ _ _ _
                    rw [flatS_append, List.length_append]; exact hown9
                  have B9 : Hid (Below w7.heap.size w7 w9) := (B8.out.alloc (by omega) _).grown hgrow9 (by simp; omega) (fun j hj => (O8.out.lt j hj).1)
                  clear hown9 hgrow9
                  go_wp2_with fail
                  go_roundw
                  case rel => exact ⟨l + 1, ot ++ [(y1, y2)], by omega, by go_num, by simp; omega, B9.out.size, O9.out, B9.out, HN2.out⟩
                  case measure => simp [intOf]; omega
              · have el : l = nx.length := by omega
                have hot : ot = (xs.take (k + 1)).foldl rStep [(s1, s2)] := by
                  rw [HN.out, el, List.take_length, HNP.out, ← rCut_pieces, ST.out, ← HO.out]
                  exact (if_neg (show ¬ x2 ≤ x1 by omega)).symm
                have hlen : ot.length ≤ k + 1 + 1 := by
                  rw [hot]
                  refine Nat.le_trans (rFold_length _ _) ?_
                  rw [List.length_take]; omega
                have HOT := Lib.hid hot
                clear hot el
                go_wp2_with fail
                go_roundw
                case rel => exact ⟨k + 1, ot, by omega, by go_num, hlen, ownsRow_base hown hz7, B7.out.trans (hnx.mono hz7), HOT.out⟩
                case measure => simp [intOf]; omega
    · have ek : k = xs.length := by omega
      have hot : out = xs.foldl rStep [(s1, s2)] := by have := HO.out; rw [ek, List.take_length] at this; exact this
      clear ek
      obtain ⟨A5, c5, rfl, hS5, hl5, hm5, _, _⟩ := Spans.of_own hown
      rcases rLess_eq (s1, s2) xs with ⟨o, e1, e2, e3⟩ | ⟨e1, e2⟩
      · rw [← hot] at e1
        subst e1
        obtain ⟨o1, o2⟩ := o
        obtain ⟨b5, off5, rfl, hb5, f1, f2⟩ := hS5 0 _ rfl
        simp only at f1 f2 e2
        have E3 := Lib.hid e3
        have hM := fun W => rnone_any o1 o2 W
        have hg' : decide (o2 ≤ o1) = true := by simpa using e2
        rw [hg'] at hM
        clear hot e3 hg' hS5 hown HO
        have hlt' : ¬ (k : Int) < (xs.length : Int) := by omega
        simp only [Nat.zero_mul, Nat.add_zero] at f1 f2
        go_wp2_with fail
        refine (hM _).mono ?_
        rintro e w8 ⟨rfl, hb8⟩
        go_wp2_with fail
        go_ret
        rw [E3.out]
        exact ⟨_, rfl, World.ownsRow_nil _ _ _ _, bt hnx hb8⟩
      · have E3 := Lib.hid (e2.trans hot.symm)
        have hlt' : ¬ (k : Int) < (xs.length : Int) := by omega
        by_cases hone : out.length = 1
        · obtain ⟨⟨o1, o2⟩, ho⟩ : ∃ o, out = [o] := List.length_eq_one_iff.1 hone
          subst ho
          obtain ⟨b5, off5, rfl, hb5, f1, f2⟩ := hS5 0 _ rfl
          simp only at f1 f2
          have hM := fun W => rnone_any o1 o2 W
          have hg' : decide (o2 ≤ o1) = false := by simpa using e1 _ hot.symm
          rw [hg'] at hM
          have OO := Lib.hid hown
          clear hot hg' hS5 hown HO hone e1 e2
          simp only [Nat.zero_mul, Nat.add_zero] at f1 f2
          go_wp2_with fail
          refine (hM _).mono ?_
          rintro e w8 ⟨rfl, hb8⟩
          go_wp2_with fail
          go_ret
          rw [E3.out]
          exact ⟨_, rfl, ob OO.out hb8, bt hnx hb8⟩
        · have h1 : ((out.length : Int) == 1) = false := by simp; omega
          have OO := Lib.hid hown
          clear hot hS5 hown HO hone e1 e2
          go_wp2_with fail
          go_ret
          rw [E3.out]
          exact ⟨_, rfl, OO.out, hnx⟩
end Go.Proofs.Ytodocdcnealijaa
