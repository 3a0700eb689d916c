/-
  The chapter's examples hold: gatefoldlaw02.awake returns true; below the heap's size at the call nothing turns.
-/
import Derived.Test.YtodocdcnealijaaLes
import Derived.Test.YtodocdcnealijaaRfa
import Derived.Test.YtodocdcnealijaaSam
namespace Go.Proofs.Ytodocdcnealijaa
open Go.RowKit Go.Proofs.Spn

theorem spans_new (w : World) (l : List Sp) : Spans (w.alloc (.cells (flatS l).toArray 23)) (some ⟨w.heap.size, 0, none⟩) l := fun i x hx => by
  obtain ⟨f1, f2⟩ := flatS_one l i x hx
  refine ⟨w.heap.size, 0, rfl, by simp, ?_, ?_⟩
  · rw [Nat.zero_add]; simpa using f1
  · rw [Nat.zero_add]; simpa using f2

theorem less_sp (s1 s2 : Int) (A : Option Addr) (c : Nat) (xs : List Sp) (w : World) (hA : Spans w A xs) (hn : (xs.length + 1) * 16 ≤ 140737488355328) :
    Calls Try.prog 11 #[.agg #[.int .i64 s1, .int .i64 s2], .slice A xs.length c] w fun e w' =>
      ∃ A' c', e = .returned (.slice A' (rLess (s1, s2) xs).length c') ∧ Spans w' A' (rLess (s1, s2) xs) ∧ Below w.heap.size w w' ∧ (rLess (s1, s2) xs).length ≤ xs.length + 1 := by
  refine (less_any s1 s2 A c xs w hA hn).mono ?_
  rintro e w' ⟨v, rfl, hr, hb, hl⟩
  obtain ⟨A', c', rfl, hS, _⟩ := Spans.of_own hr
  exact ⟨A', c', rfl, hS, hb, hl⟩

theorem ex1 : rLess (0, 10) [(2, 3), (5, 20)] = [(0, 2), (3, 5)] := by decide
theorem ex2 : rLess (0, 10) [(0, 10)] = [] := by decide
theorem ex3 : hullS [(7, 9), (4, 4), (1, 2)] = (1, 9) := by decide
theorem ex4 : meetS (0, 4) (2, 9) = (2, 4) := by decide
theorem ex5 : meetS (0, 2) (2, 9) = (0, 0) := by decide
theorem ex6 : sameB [(0, 2), (3, 5)] [(0, 2), (3, 5)] = true := by decide

set_option maxRecDepth 100000 in
set_option maxHeartbeats 4000000 in
theorem awake_any (w : World) : Calls Try.prog 7 #[] w fun e w' => e = .returned (.bool true) ∧ Below w.heap.size w w' := by
  have l1 : lenS (2, 5) = 3 := by decide
  have l2 : lenS (5, 2) = 0 := by decide
  have l3 : hasS (2, 5) 2 = true := by decide
  have l4 : hasS (2, 5) 5 = false := by decide
  have l5 := ex4
  have l6 := ex5
  have l7 := ex3
  go_enter Try.func7, Try.ntmps7
  go_wp2_with (first
    | (go_at_call 23; refine (of_any _ _ _).mono ?_; rintro e w' ⟨rfl, hb⟩)
    | (go_at_call 18; refine (len_any _ _ _ (by omega)).mono ?_; rintro e w' ⟨rfl, hb⟩)
    | (go_at_call 13; refine (has_any _ _ _ _).mono ?_; rintro e w' ⟨rfl, hb⟩)
    | (go_at_call 14; refine (meet_any _ _ _ _ _).mono ?_; rintro e w' ⟨rfl, hb⟩)
    | (go_at_call 8; refine (hull_any _ _ [(7, 9), (4, 4), (1, 2)] _ (spans_new _ _) (by simp)).mono ?_; rintro e w' ⟨rfl, hb⟩))
  clear l1 l2 l3 l4 l5 l6 l7
  have hL := fun W => less_sp 0 10 (some ⟨W.heap.size, 0, none⟩) 2 [(2, 3), (5, 20)] (W.alloc (.cells (flatS [(2, 3), (5, 20)]).toArray 23)) (spans_new W _) (by simp)
  rw [ex1] at hL
  refine (hL _).mono ?_
  clear hL
  rintro e w1 ⟨A1, c1, rfl, hS1, hb, _⟩
  have S1 := Lib.hid hS1
  clear hS1
  go_wp2_with fail
  refine (of_any _ _ _).mono ?_
  rintro e w2 ⟨rfl, hb2⟩
  go_wp2_with fail
  refine (of_any _ _ _).mono ?_
  rintro e w3 ⟨rfl, hb3⟩
  go_wp2_with fail
  have S3 : Spans (w3.alloc (.cells (flatS [(0, 2), (3, 5)]).toArray 23)) A1 [(0, 2), (3, 5)] := ((S1.out.below hb2).below hb3).below (bl (Below.refl _ _) _)
  have hS := same_any A1 (some ⟨w3.heap.size, 0, none⟩) c1 2 [(0, 2), (3, 5)] [(0, 2), (3, 5)] _ S3 (spans_new w3 _) (by simp)
  rw [ex6] at hS
  refine hS.mono ?_
  clear hS S3
  rintro e w4 ⟨rfl, hb4⟩
  go_wp2_with fail
  refine (of_any _ _ _).mono ?_
  rintro e w5 ⟨rfl, hb5⟩
  go_wp2_with fail
  refine (of_any _ _ _).mono ?_
  rintro e w6 ⟨rfl, hb6⟩
  go_wp2_with fail
  have hL := less_sp 0 10 (some ⟨w6.heap.size, 0, none⟩) 1 [(0, 10)] (w6.alloc (.cells (flatS [(0, 10)]).toArray 23)) (spans_new w6 _) (by simp)
  rw [ex2] at hL
  refine hL.mono ?_
  clear hL
  rintro e w7 ⟨A2, c2, rfl, _, hb7, _⟩
  go_wp2_with fail
  go_ret
  refine ⟨rfl, ?_⟩
  repeat (first | exact Below.refl _ _ | refine bl ?_ _ | refine bt ?_ (by assumption))
end Go.Proofs.Ytodocdcnealijaa
