/-
  gatefoldref02.Hull returns the hull of whatever spans; below the heap's size at the call nothing turns.
-/
import Derived.Test.YtodocdcnealijaaRfa
import Derived.Test.YtodocdcnealijaaHul
namespace Go.Proofs.Ytodocdcnealijaa
open Go.RowKit Go.Proofs.Spn

theorem rhull_snoc (l : List Sp) (k : Nat) (x : Sp) (h : l[k]? = some x) : rHull (l.take (k + 1)) = rHullStep (rHull (l.take k)) x := by
  rw [take_snoc l k x h]; unfold rHull; rw [List.foldl_append]; rfl

set_option maxHeartbeats 2000000 in
theorem rhull_any (A : Option Addr) (c : Nat) (xs : List Sp) (w : World) (hA : Spans w A xs) (hn : xs.length ≤ 9223372036854775807) :
    Calls Try.prog 9 #[.slice A xs.length c] w fun e w' => e = .returned (vS (rHull xs)) ∧ Below w.heap.size w w' := by
  have HA := Lib.hid hA
  clear hA
  go_enter Try.func9, Try.ntmps9
  go_wp2
  go_loopw [4] (fun i wr => ∃ (k : Nat) (o1 o2 : Int), k ≤ xs.length ∧ i = .int .i64 k ∧ Two wr w.heap.size 0 0 ∧ Two wr (w.heap.size + 1) o1 o2 ∧ Below w.heap.size w wr ∧ Hid (rHull (xs.take k) = (o1, o2)))
    (fun i _ => xs.length - (intOf i).toNat)
  case atStart => exact ⟨0, 0, 0, Nat.zero_le _, rfl, (Two.new _ _ _).alloc _, by have := Two.new (w.alloc (.cells #[.int .i64 0, .int .i64 0] 23)) 0 0; simpa using this, bl (bl (Below.refl _ _) _) _, rfl⟩
  case round =>
    obtain ⟨k, o1, o2, hk, rfl, hT0, hT1, hnx, HH⟩ := hrel
    have T0 := Lib.hid hT0
    have T1 := Lib.hid hT1
    have hz := hT1.lt
    by_cases hlt : k < xs.length
    · obtain ⟨⟨x1, x2⟩, hx⟩ : ∃ x, xs[k]? = some x := ⟨_, List.getElem?_eq_getElem hlt⟩
      obtain ⟨b, off, rfl, hb, c1, c2⟩ := HA.out.below hnx k _ hx
      have hbw : b < w.heap.size := by
        obtain ⟨b', off', e, hb', _⟩ := HA.out k _ hx
        cases e; exact hb'
      have hsn := rhull_snoc xs k _ hx
      rw [HH.out] at hsn
      have HX := Lib.hid hsn
      have HXX := Lib.hid hx
      clear hsn hx hT0 hT1 HH
      simp only at c1 c2
      have hN := fun W => rnone_any x1 x2 W
      have hO := fun W => rnone_any o1 o2 W
      have fin : ∀ (wX : World) (p1 p2 : Int), Two wX w.heap.size 0 0 → Two wX (w.heap.size + 1) p1 p2 → Below w.heap.size w wX → rHullStep (o1, o2) (x1, x2) = (p1, p2) → ∃ (k' : Nat) (q1 q2 : Int), k' ≤ xs.length ∧ Value.int .i64 ((k : Int) + 1) = .int .i64 k' ∧ Two wX w.heap.size 0 0 ∧ Two wX (w.heap.size + 1) q1 q2 ∧ Below w.heap.size w wX ∧ Hid (rHull (xs.take k') = (q1, q2)) :=
        fun wX p1 p2 a1 a2 a3 a4 => ⟨k + 1, p1, p2, by omega, by go_num, a1, a2, a3, HX.out.trans a4⟩
      have FIN := Lib.hid fin
      clear fin
      by_cases h1 : x2 ≤ x1
      · have h1' : decide (x2 ≤ x1) = true := by simpa using h1
        rw [h1'] at hN
        clear h1' hO
        go_wp2_with (go_at_call 22; refine (hN _).mono ?_; rintro e w' ⟨rfl, hbn⟩)
        go_roundw
        case rel => exact FIN.out _ o1 o2 (T0.out.below hbn (by omega)) (T1.out.below hbn (by omega)) (bt hnx hbn) (by unfold rHullStep; rw [if_pos h1])
        case measure => simp [intOf]; omega
      · have h1' : decide (x2 ≤ x1) = false := by simpa using h1
        rw [h1'] at hN
        clear h1'
        by_cases ho : o2 ≤ o1
        · have h2' : decide (o2 ≤ o1) = true := by simpa using ho
          rw [h2'] at hO
          clear h2'
          have FX := Lib.hid (show rHullStep (o1, o2) (x1, x2) = (min x1 x1, max x2 x2) by unfold rHullStep; rw [if_neg h1]; simp only [if_pos ho])
          go_wp2_with fail
          refine (hN _).mono ?_
          rintro e w1 ⟨rfl, hb1⟩
          have c1' := (hb1.cell (p := ⟨b, off + k * 2, none⟩) hb).trans c1
          have c2' := (hb1.cell (p := ⟨b, off + k * 2 + 1, none⟩) hb).trans c2
          have S1 := Lib.hid (T1.out.below hb1 (by omega))
          obtain ⟨t1, t2, t3, t4⟩ := S1.out.facts
          go_wp2_with fail
          refine (hO _).mono ?_
          rintro e w2 ⟨rfl, hb2⟩
          have hbz := hb1.size
          have c1'' := (hb2.cell (p := ⟨b, off + k * 2, none⟩) (by exact Nat.lt_of_lt_of_le hb hbz)).trans c1'
          have c2'' := (hb2.cell (p := ⟨b, off + k * 2 + 1, none⟩) (by exact Nat.lt_of_lt_of_le hb hbz)).trans c2'
          clear c1 c2 c1' c2' t1 t2 t3 t4
          have S2 := Lib.hid (S1.out.below hb2 S1.out.lt)
          obtain ⟨t1, t2, t3, t4⟩ := S2.out.facts
          have hne : w.heap.size + 1 ≠ b := by omega
          go_wp2_with fail
          have T3 : Two ((w2.setCell ⟨w.heap.size + 1, 0, none⟩ (.int .i64 x1)).setCell ⟨w.heap.size + 1, 1, none⟩ (.int .i64 x2)) (w.heap.size + 1) x1 x2 := (S2.out.set0 _).set1 _
          have B3 : Below w.heap.size w ((w2.setCell ⟨w.heap.size + 1, 0, none⟩ (.int .i64 x1)).setCell ⟨w.heap.size + 1, 1, none⟩ (.int .i64 x2)) := ((bt (bt hnx hb1) hb2).setCell (by simp) _).setCell (by simp) _
          have Z3 : Two ((w2.setCell ⟨w.heap.size + 1, 0, none⟩ (.int .i64 x1)).setCell ⟨w.heap.size + 1, 1, none⟩ (.int .i64 x2)) w.heap.size 0 0 := (((T0.out.below hb1 (by omega)).below hb2 (by omega)).far (by simp) _).far (by simp) _
          clear c1'' c2'' t1 t2 t3 t4 S2 S1 hbz
          generalize (w2.setCell ⟨w.heap.size + 1, 0, none⟩ (.int .i64 x1)).setCell ⟨w.heap.size + 1, 1, none⟩ (.int .i64 x2) = w3 at T3 B3 Z3 ⊢
          obtain ⟨_, _, e, _, c1, c2⟩ := HA.out.below B3 k _ HXX.out
          cases e
          simp only at c1 c2
          obtain ⟨t1, t2, t3, t4⟩ := T3.facts
          have TT := Lib.hid T3
          have ZZ := Lib.hid Z3
          clear T3 Z3
          go_region
          all_goals (go_wp2_with fail)
          all_goals go_region
          all_goals (try go_wp2_with fail)
          all_goals go_roundw
          all_goals first
            | (refine FIN.out _ _ _ ?_ ((((TT.out.set0 _).set1 _).drew).drew) ?_ ?_
               · exact ((((ZZ.out.far (by simp) _).far (by simp) _).drew).drew)
               · exact (((B3.setCell (by simp) _).setCell (by simp) _).drew).drew
               · rw [FX.out]; simp only [Prod.mk.injEq]; constructor <;> (first | omega | (split <;> omega)))
            | (simp [intOf]; omega)
        · have h2' : decide (o2 ≤ o1) = false := by simpa using ho
          rw [h2'] at hO
          clear h2'
          have FX := Lib.hid (show rHullStep (o1, o2) (x1, x2) = (min o1 x1, max o2 x2) by unfold rHullStep; rw [if_neg h1]; simp only [if_neg ho])
          go_wp2_with fail
          refine (hN _).mono ?_
          rintro e w1 ⟨rfl, hb1⟩
          have S1 := Lib.hid (T1.out.below hb1 (by omega))
          obtain ⟨t1, t2, t3, t4⟩ := S1.out.facts
          go_wp2_with fail
          refine (hO _).mono ?_
          rintro e w2 ⟨rfl, hb2⟩
          have T3 : Two w2 (w.heap.size + 1) o1 o2 := S1.out.below hb2 S1.out.lt
          have B3 : Below w.heap.size w w2 := bt (bt hnx hb1) hb2
          have Z3 : Two w2 w.heap.size 0 0 := (T0.out.below hb1 (by omega)).below hb2 (by have := hb1.size; omega)
          clear t1 t2 t3 t4 S1
          obtain ⟨_, _, e, _, c1, c2⟩ := HA.out.below B3 k _ HXX.out
          cases e
          simp only at c1 c2
          obtain ⟨t1, t2, t3, t4⟩ := T3.facts
          have TT := Lib.hid T3
          have ZZ := Lib.hid Z3
          have hne : w.heap.size + 1 ≠ b := by omega
          clear T3 Z3
          go_wp2_with fail
          go_region
          all_goals (go_wp2_with fail)
          all_goals go_region
          all_goals (try go_wp2_with fail)
          all_goals go_roundw
          all_goals first
            | (refine FIN.out _ _ _ ?_ ((((TT.out.set0 _).set1 _).drew).drew) ?_ ?_
               · exact ((((ZZ.out.far (by simp) _).far (by simp) _).drew).drew)
               · exact (((B3.setCell (by simp) _).setCell (by simp) _).drew).drew
               · rw [FX.out]; simp only [Prod.mk.injEq]; constructor <;> (first | omega | (split <;> omega)))
            | (simp [intOf]; omega)
    · have e : k = xs.length := by omega
      have HK := Lib.hid e
      clear e
      obtain ⟨t1, t2, t3, t4⟩ := hT1.facts
      obtain ⟨s1, s2, s3, s4⟩ := hT0.facts
      obtain ⟨r1, r2, _, _⟩ := ((hT0.set0 o1).set1 o2).facts
      go_wp2
      refine bodyPost_ret (v := .agg #[.int .i64 o1, .int .i64 o2]) (by simp [results, Try.results9, go_sem, r1, r2]) rfl ⟨?_, ?_⟩
      · have := HH.out
        rw [HK.out, List.take_length] at this
        rw [this]
      · exact (hnx.setCell (by simp) _).setCell (by simp) _
end Go.Proofs.Ytodocdcnealijaa
