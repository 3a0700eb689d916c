/-
  span.Hull returns the hull of whatever spans; below the heap's size at the call nothing turns.
-/
import Derived.Test.YtodocdcnealijaaMem
namespace Go.Proofs.Ytodocdcnealijaa
open Go.RowKit Go.Proofs.Spn

theorem take_snoc (l : List Sp) (k : Nat) (x : Sp) (h : l[k]? = some x) : l.take (k + 1) = l.take k ++ [x] := by
  rw [List.take_add_one, h]; rfl
theorem hull_snoc (l : List Sp) (k : Nat) (x : Sp) (h : l[k]? = some x) : hullS (l.take (k + 1)) = hullStep (hullS (l.take k)) x := by
  rw [take_snoc l k x h]; unfold hullS; rw [List.foldl_append]; rfl

set_option maxHeartbeats 2000000 in
theorem hull_any (A : Option Addr) (c : Nat) (xs : List Sp) (w : World) (hA : Spans w A xs) (hn : xs.length ≤ 9223372036854775807) :
    Calls Try.prog 8 #[.slice A xs.length c] w fun e w' => e = .returned (vS (hullS xs)) ∧ Below w.heap.size w w' := by
  have HA := Lib.hid hA
  clear hA
  go_enter Try.func8, Try.ntmps8
  go_wp2
  go_loopw [8] (fun i wr => ∃ (k : Nat) (o1 o2 : Int), k ≤ xs.length ∧ i = .int .i64 k ∧ Two wr w.heap.size 0 0 ∧ Two wr (w.heap.size + 1) o1 o2 ∧ Below w.heap.size w wr ∧ Hid (hullS (xs.take k) = (o1, o2)))
    (fun i _ => xs.length - (intOf i).toNat)
  case atStart => exact ⟨0, 0, 0, Nat.zero_le _, rfl, (Two.new _ _ _).alloc _, by have := Two.new (w.alloc (.cells #[.int .i64 0, .int .i64 0] 23)) 0 0; simpa using this, bl (bl (Below.refl _ _) _) _, rfl⟩
  case round =>
    obtain ⟨k, o1, o2, hk, rfl, hT0, hT1, hnx, HH⟩ := hrel
    have T0 := Lib.hid hT0
    have T1 := Lib.hid hT1
    have hz := hT1.lt
    by_cases hlt : k < xs.length
    · obtain ⟨⟨x1, x2⟩, hx⟩ : ∃ x, xs[k]? = some x := ⟨_, List.getElem?_eq_getElem hlt⟩
      obtain ⟨b, off, rfl, hb, c1, c2⟩ := HA.out.below hnx k _ hx
      have hsn := hull_snoc xs k _ hx
      rw [HH.out] at hsn
      have HX := Lib.hid hsn
      have HXX := Lib.hid hx
      clear hsn hx hT0 hT1 HH
      simp only at c1 c2
      have hN := fun W => none_any x1 x2 W
      have fin : ∀ (wX : World) (p1 p2 : Int), Two wX w.heap.size 0 0 → Two wX (w.heap.size + 1) p1 p2 → Below w.heap.size w wX → hullStep (o1, o2) (x1, x2) = (p1, p2) → ∃ (k' : Nat) (q1 q2 : Int), k' ≤ xs.length ∧ Value.int .i64 ((k : Int) + 1) = .int .i64 k' ∧ Two wX w.heap.size 0 0 ∧ Two wX (w.heap.size + 1) q1 q2 ∧ Below w.heap.size w wX ∧ Hid (hullS (xs.take k') = (q1, q2)) :=
        fun wX p1 p2 a1 a2 a3 a4 => ⟨k + 1, p1, p2, by omega, by go_num, a1, a2, a3, HX.out.trans a4⟩
      have FIN := Lib.hid fin
      clear fin
      by_cases h1 : x2 ≤ x1
      · have h1' : decide (x2 ≤ x1) = true := by simpa using h1
        rw [h1'] at hN
        clear h1'
        go_wp2_with (go_at_call 24; refine (hN _).mono ?_; rintro e w' ⟨rfl, hbn⟩)
        go_roundw
        case rel => exact FIN.out _ o1 o2 ((T0.out.alloc _).below hbn (by simp; omega)) ((T1.out.alloc _).below hbn (by simp; omega)) (bt (bl hnx _) hbn) (by unfold hullStep; rw [if_pos h1])
        case measure => simp [intOf]; omega
      · have h1' : decide (x2 ≤ x1) = false := by simpa using h1
        rw [h1'] at hN
        clear h1'
        by_cases ho : o1 = 0 ∧ o2 = 0
        · obtain ⟨rfl, rfl⟩ := ho
          have FX := Lib.hid (show hullStep ((0 : Int), (0 : Int)) (x1, x2) = (x1, x2) by unfold hullStep; rw [if_neg h1, if_pos rfl])
          go_wp2_with (go_at_call 24; refine (hN _).mono ?_; rintro e w' ⟨rfl, hbn⟩; obtain ⟨s1, s2, s3, s4⟩ := ((Two.new wr x1 x2).below hbn (by simp)).facts; obtain ⟨t1, t2, t3, t4⟩ := ((T1.out.alloc _).below hbn (by simp; omega)).facts)
          go_roundw
          case rel =>
            refine FIN.out _ x1 x2 ?_ ?_ ?_ FX.out
            · exact (((T0.out.alloc _).below hbn (by simp; omega)).far (by simp) _).far (by simp) _
            · exact (((T1.out.alloc _).below hbn (by simp; omega)).set0 _).set1 _
            · exact ((bt (bl hnx _) hbn).setCell (by simp) _).setCell (by simp) _
          case measure => simp [intOf]; omega
        · have FX := Lib.hid (show hullStep (o1, o2) (x1, x2) = (min o1 x1, max o2 x2) by unfold hullStep; rw [if_neg h1, if_neg (by simpa using ho)])
          rcases (show o1 ≠ 0 ∨ (o1 = 0 ∧ o2 ≠ 0) by omega) with g | ⟨rfl, g⟩
          · have g' : (o1 == 0) = false := by simpa using g
            clear g ho
            go_wp2_with (go_at_call 24; refine (hN _).mono ?_; rintro e w' ⟨rfl, hbn⟩; obtain ⟨s1, s2, s3, s4⟩ := ((Two.new wr x1 x2).below hbn (by simp)).facts; obtain ⟨t1, t2, t3, t4⟩ := ((T1.out.alloc _).below hbn (by simp; omega)).facts)
            go_roundw
            case rel =>
              refine FIN.out _ _ _ ?_ ((((T1.out.alloc _).below hbn (by simp; omega)).set0 _).set1 _) ?_ ?_
              · exact (((T0.out.alloc _).below hbn (by simp; omega)).far (by simp) _).far (by simp) _
              · exact ((bt (bl hnx _) hbn).setCell (by simp) _).setCell (by simp) _
              · rw [FX.out]; simp only [Prod.mk.injEq]; constructor <;> (split <;> omega)
            case measure => simp [intOf]; omega
          · have g' : (o2 == 0) = false := by simpa using g
            clear g ho
            go_wp2_with (go_at_call 24; refine (hN _).mono ?_; rintro e w' ⟨rfl, hbn⟩; obtain ⟨s1, s2, s3, s4⟩ := ((Two.new wr x1 x2).below hbn (by simp)).facts; obtain ⟨t1, t2, t3, t4⟩ := ((T1.out.alloc _).below hbn (by simp; omega)).facts)
            go_roundw
            case rel =>
              refine FIN.out _ _ _ ?_ ((((T1.out.alloc _).below hbn (by simp; omega)).set0 _).set1 _) ?_ ?_
              · exact (((T0.out.alloc _).below hbn (by simp; omega)).far (by simp) _).far (by simp) _
              · exact ((bt (bl hnx _) hbn).setCell (by simp) _).setCell (by simp) _
              · rw [FX.out]; simp only [Prod.mk.injEq]; constructor <;> (split <;> omega)
            case measure => simp [intOf]; omega
    · have e : k = xs.length := by omega
      have HK := Lib.hid e
      clear e
      obtain ⟨t1, t2, t3, t4⟩ := hT1.facts
      obtain ⟨s1, s2, s3, s4⟩ := hT0.facts
      obtain ⟨r1, r2, _, _⟩ := ((hT0.set0 o1).set1 o2).facts
      go_wp2
      refine bodyPost_ret (v := .agg #[.int .i64 o1, .int .i64 o2]) (by simp [results, Try.results8, go_sem, r1, r2]) rfl ⟨?_, ?_⟩
      · have := HH.out
        rw [HK.out, List.take_length] at this
        rw [this]
      · exact (hnx.setCell (by simp) _).setCell (by simp) _
end Go.Proofs.Ytodocdcnealijaa
