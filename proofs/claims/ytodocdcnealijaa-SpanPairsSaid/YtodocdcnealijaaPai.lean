/-
  gatefoldlaw02.SpanPairs, walked: it returns true for any two spans and any number; below the heap's size at the call nothing turns.
-/
import Derived.Test.YtodocdcnealijaaAwa
import Derived.Test.YtodocdcnealijaaRfb
import Derived.Test.YtodocdcnealijaaSpb
import Derived.Test.YtodocdcnealijaaQbl
namespace Go.Proofs.Ytodocdcnealijaa
open Go.RowKit Go.Proofs.Spn

theorem apart_none (a b : Sp) : decide (meetS a b = (0, 0)) = decide ((meetS a b).2 ≤ (meetS a b).1) := by
  rw [decide_eq_decide]
  unfold meetS
  split
  · simp
  · constructor
    · intro h; simp only [Prod.mk.injEq] at h; simp only; omega
    · intro h; simp only at h; omega
theorem within_meet (a b : Sp) (h : ¬ a.2 ≤ a.1) : withinS a b = decide (meetS a b = a) := by
  rw [Bool.eq_iff_iff]
  unfold withinS meetS
  obtain ⟨a1, a2⟩ := a
  obtain ⟨b1, b2⟩ := b
  simp only [Bool.or_eq_true, Bool.and_eq_true, decide_eq_true_eq] at *
  split
  · simp only [Prod.mk.injEq]; omega
  · simp only [Prod.mk.injEq]; omega

set_option maxRecDepth 100000 in
set_option maxHeartbeats 8000000 in
theorem pairs_near_none (a1 a2 b1 b2 x m1 m2 : Int) (w : World) (hm : meetS (a1, a2) (b1, b2) = (m1, m2)) (hne : nearB (a1, a2) = true) (hn : a2 ≤ a1) :
    Calls Try.prog 5 #[.agg #[.int .i64 a1, .int .i64 a2], .agg #[.int .i64 b1, .int .i64 b2], .int .i64 x] w fun e w' => e = .returned (.bool true) ∧ Below w.heap.size w w' := by
  have cM := fun W => meet_any a1 a2 b1 b2 W
  have cR := fun W => rmeet_any a1 a2 b1 b2 W
  have cA := fun W => apart_any a1 a2 b1 b2 W
  have cW := fun W => within_any a1 a2 b1 b2 W
  have cH := fun W => has_any a1 a2 x W
  have cG := fun W => rhas_any a1 a2 x W
  have cN := fun W => near_any a1 a2 W
  have c1 := fun W => rnone_any a1 a2 W
  have c2 := fun W => rnone_any m1 m2 W
  have cE := fun W => awake_any W
  have hl : a2 - a1 ≤ 9223372036854775807 := by
    unfold nearB at hne
    simp only [decide_eq_true_eq] at hne
    omega
  have cL := fun W => len_any a1 a2 W hl
  have cK := fun W => rlen_any a1 a2 W hl
  generalize lenS (a1, a2) = r0 at cL cK
  clear hl
  have e1 := apart_none (a1, a2) (b1, b2)
  rw [← meet_eq] at cR
  rw [e1] at cA
  rw [show decide (a2 ≤ a1) = true by simpa using hn] at c1
  rw [show withinS (a1, a2) (b1, b2) = true by unfold withinS; simp [hn]] at cW
  rw [hm] at cM cR cA
  simp only at cA
  rw [hne] at cN
  clear e1 hm hne hn
  generalize decide (m2 ≤ m1) = r1 at cA c2
  generalize hasS (a1, a2) x = r2 at cH cG
  go_enter Try.func5, Try.ntmps5
  go_wp2_with fail
  refine (cR _).mono ?_
  rintro e w1 ⟨rfl, hb1⟩
  have hz1 : w.heap.size + 1 < w1.heap.size := by have := hb1.size; simp at this; omega
  have B1 : Below w.heap.size w w1 := bt (bl (bl (Below.refl _ _) _) _) hb1
  have k1 := (hb1.cell (p := ⟨w.heap.size, 0, none⟩) (by simp; omega)).trans (show _ = some (.int .i64 a1) by simp)
  have k2 := (hb1.cell (p := ⟨w.heap.size, 1, none⟩) (by simp; omega)).trans (show _ = some (.int .i64 a2) by simp)
  have k3 := (hb1.cell (p := ⟨w.heap.size + 1, 0, none⟩) (by simp)).trans (show _ = some (.int .i64 b1) by simp)
  have k4 := (hb1.cell (p := ⟨w.heap.size + 1, 1, none⟩) (by simp)).trans (show _ = some (.int .i64 b2) by simp)
  clear hb1
  go_wp2_with fail
  have W2 : Below w.heap.size w (w1.alloc (.cells #[.int .i64 m1, .int .i64 m2] 23)) := bl B1 _
  have k5 : (w1.alloc (.cells #[.int .i64 m1, .int .i64 m2] 23)).cell? ⟨w1.heap.size, 0, none⟩ = some (.int .i64 m1) := by simp
  have k6 : (w1.alloc (.cells #[.int .i64 m1, .int .i64 m2] 23)).cell? ⟨w1.heap.size, 1, none⟩ = some (.int .i64 m2) := by simp
  have j1 := (World.cell?_alloc_lt w1 (.cells #[.int .i64 m1, .int .i64 m2] 23) ⟨w.heap.size, 0, none⟩ (by show w.heap.size < _; omega)).trans k1
  have j2 := (World.cell?_alloc_lt w1 (.cells #[.int .i64 m1, .int .i64 m2] 23) ⟨w.heap.size, 1, none⟩ (by show w.heap.size < _; omega)).trans k2
  have j3 := (World.cell?_alloc_lt w1 (.cells #[.int .i64 m1, .int .i64 m2] 23) ⟨w.heap.size + 1, 0, none⟩ (by show w.heap.size + 1 < _; omega)).trans k3
  have j4 := (World.cell?_alloc_lt w1 (.cells #[.int .i64 m1, .int .i64 m2] 23) ⟨w.heap.size + 1, 1, none⟩ (by show w.heap.size + 1 < _; omega)).trans k4
  have z2 : w1.heap.size < (w1.alloc (.cells #[.int .i64 m1, .int .i64 m2] 23)).heap.size := by simp
  clear k1 k2 k3 k4 B1
  generalize (w1.alloc (.cells #[.int .i64 m1, .int .i64 m2] 23)) = w2 at j1 j2 j3 j4 k5 k6 z2 W2 ⊢
  have f1 := From.cell j1
  have f2 := From.cell j2
  refine wp_region_from (by kernel_rfl) (by kernel_rfl) ?_
  repeat (go_big_quiet_step ((first | (go_at_call 17; exact calls_from (cN _)) | (go_at_call 18; exact calls_from (cL _)) | (go_at_call 19; exact calls_from (cK _)))))
  refine wpQuiet_nil ?_
  intro _ hw'
  obtain ⟨p, rfl⟩ := hw'
  have i1 := From.cell j1 p
  have i2 := From.cell j2 p
  have i3 := From.cell j3 p
  have i4 := From.cell j4 p
  have i5 := From.cell k5 p
  have i6 := From.cell k6 p
  have hb3 := p.below
  generalize p.W = w3 at i1 i2 i3 i4 i5 i6 hb3 ⊢
  clear f1 f2 j1 j2 j3 j4 k5 k6
  go_wp2_with fail
  have W3 : Below w.heap.size w w3 := bt W2 hb3
  clear hb3 W2
  have g1 := From.cell i1
  have g2 := From.cell i2
  have g3 := From.cell i3
  have g4 := From.cell i4
  have g5 := From.cell i5
  have g6 := From.cell i6
  clear i1 i2 i3 i4 i5 i6
  refine wp_region_from (by kernel_rfl) (by kernel_rfl) ?_
  repeat (go_big_quiet_step ((first
    | (go_at_call 13; exact calls_from (cH _))
    | (go_at_call 20; exact calls_from (cG _))
    | (go_at_call 14; exact calls_from (cM _))
    | (go_at_call 21; exact calls_from (cA _))
    | (go_at_call 15; exact calls_from (cW _))
    | (go_at_call 22; (with_reducible exact calls_from (c1 _)))
    | (go_at_call 22; (with_reducible exact calls_from (c2 _)))
    | (go_at_call 7; exact calls_from (cE _)))))
  refine wpQuiet_nil ?_
  intro _ hw'
  obtain ⟨p4, rfl⟩ := hw'
  have hb4 := p4.below
  generalize p4.W = w4 at hb4 ⊢
  go_wp2_with fail
  go_ret
  exact ⟨rfl, bt W3 hb4⟩

set_option maxRecDepth 100000 in
set_option maxHeartbeats 8000000 in
theorem pairs_near_same (a1 a2 b1 b2 x m1 m2 : Int) (w : World) (hm : meetS (a1, a2) (b1, b2) = (m1, m2)) (hne : nearB (a1, a2) = true) (hn : ¬ a2 ≤ a1) (q1 : (m1 == a1) = true) (q2 : (m2 == a2) = true) :
    Calls Try.prog 5 #[.agg #[.int .i64 a1, .int .i64 a2], .agg #[.int .i64 b1, .int .i64 b2], .int .i64 x] w fun e w' => e = .returned (.bool true) ∧ Below w.heap.size w w' := by
  have cM := fun W => meet_any a1 a2 b1 b2 W
  have cR := fun W => rmeet_any a1 a2 b1 b2 W
  have cA := fun W => apart_any a1 a2 b1 b2 W
  have cW := fun W => within_any a1 a2 b1 b2 W
  have cH := fun W => has_any a1 a2 x W
  have cG := fun W => rhas_any a1 a2 x W
  have cN := fun W => near_any a1 a2 W
  have c1 := fun W => rnone_any a1 a2 W
  have c2 := fun W => rnone_any m1 m2 W
  have cE := fun W => awake_any W
  have hl : a2 - a1 ≤ 9223372036854775807 := by
    unfold nearB at hne
    simp only [decide_eq_true_eq] at hne
    omega
  have cL := fun W => len_any a1 a2 W hl
  have cK := fun W => rlen_any a1 a2 W hl
  generalize lenS (a1, a2) = r0 at cL cK
  clear hl
  have e1 := apart_none (a1, a2) (b1, b2)
  rw [← meet_eq] at cR
  rw [e1] at cA
  rw [show decide (a2 ≤ a1) = false by simpa using hn] at c1
  rw [within_meet (a1, a2) (b1, b2) hn, hm, show decide ((m1, m2) = (a1, a2)) = true by simp only [beq_iff_eq] at q1 q2; rw [q1, q2]; simp] at cW
  rw [hm] at cM cR cA
  simp only at cA
  rw [hne] at cN
  clear e1 hm hne hn
  generalize decide (m2 ≤ m1) = r1 at cA c2
  generalize hasS (a1, a2) x = r2 at cH cG
  go_enter Try.func5, Try.ntmps5
  go_wp2_with fail
  refine (cR _).mono ?_
  rintro e w1 ⟨rfl, hb1⟩
  have hz1 : w.heap.size + 1 < w1.heap.size := by have := hb1.size; simp at this; omega
  have B1 : Below w.heap.size w w1 := bt (bl (bl (Below.refl _ _) _) _) hb1
  have k1 := (hb1.cell (p := ⟨w.heap.size, 0, none⟩) (by simp; omega)).trans (show _ = some (.int .i64 a1) by simp)
  have k2 := (hb1.cell (p := ⟨w.heap.size, 1, none⟩) (by simp; omega)).trans (show _ = some (.int .i64 a2) by simp)
  have k3 := (hb1.cell (p := ⟨w.heap.size + 1, 0, none⟩) (by simp)).trans (show _ = some (.int .i64 b1) by simp)
  have k4 := (hb1.cell (p := ⟨w.heap.size + 1, 1, none⟩) (by simp)).trans (show _ = some (.int .i64 b2) by simp)
  clear hb1
  go_wp2_with fail
  have W2 : Below w.heap.size w (w1.alloc (.cells #[.int .i64 m1, .int .i64 m2] 23)) := bl B1 _
  have k5 : (w1.alloc (.cells #[.int .i64 m1, .int .i64 m2] 23)).cell? ⟨w1.heap.size, 0, none⟩ = some (.int .i64 m1) := by simp
  have k6 : (w1.alloc (.cells #[.int .i64 m1, .int .i64 m2] 23)).cell? ⟨w1.heap.size, 1, none⟩ = some (.int .i64 m2) := by simp
  have j1 := (World.cell?_alloc_lt w1 (.cells #[.int .i64 m1, .int .i64 m2] 23) ⟨w.heap.size, 0, none⟩ (by show w.heap.size < _; omega)).trans k1
  have j2 := (World.cell?_alloc_lt w1 (.cells #[.int .i64 m1, .int .i64 m2] 23) ⟨w.heap.size, 1, none⟩ (by show w.heap.size < _; omega)).trans k2
  have j3 := (World.cell?_alloc_lt w1 (.cells #[.int .i64 m1, .int .i64 m2] 23) ⟨w.heap.size + 1, 0, none⟩ (by show w.heap.size + 1 < _; omega)).trans k3
  have j4 := (World.cell?_alloc_lt w1 (.cells #[.int .i64 m1, .int .i64 m2] 23) ⟨w.heap.size + 1, 1, none⟩ (by show w.heap.size + 1 < _; omega)).trans k4
  have z2 : w1.heap.size < (w1.alloc (.cells #[.int .i64 m1, .int .i64 m2] 23)).heap.size := by simp
  clear k1 k2 k3 k4 B1
  generalize (w1.alloc (.cells #[.int .i64 m1, .int .i64 m2] 23)) = w2 at j1 j2 j3 j4 k5 k6 z2 W2 ⊢
  have f1 := From.cell j1
  have f2 := From.cell j2
  refine wp_region_from (by kernel_rfl) (by kernel_rfl) ?_
  repeat (go_big_quiet_step ((first | (go_at_call 17; exact calls_from (cN _)) | (go_at_call 18; exact calls_from (cL _)) | (go_at_call 19; exact calls_from (cK _)))))
  refine wpQuiet_nil ?_
  intro _ hw'
  obtain ⟨p, rfl⟩ := hw'
  have i1 := From.cell j1 p
  have i2 := From.cell j2 p
  have i3 := From.cell j3 p
  have i4 := From.cell j4 p
  have i5 := From.cell k5 p
  have i6 := From.cell k6 p
  have hb3 := p.below
  generalize p.W = w3 at i1 i2 i3 i4 i5 i6 hb3 ⊢
  clear f1 f2 j1 j2 j3 j4 k5 k6
  go_wp2_with fail
  have W3 : Below w.heap.size w w3 := bt W2 hb3
  clear hb3 W2
  have g1 := From.cell i1
  have g2 := From.cell i2
  have g3 := From.cell i3
  have g4 := From.cell i4
  have g5 := From.cell i5
  have g6 := From.cell i6
  clear i1 i2 i3 i4 i5 i6
  refine wp_region_from (by kernel_rfl) (by kernel_rfl) ?_
  repeat (go_big_quiet_step ((first
    | (go_at_call 13; exact calls_from (cH _))
    | (go_at_call 20; exact calls_from (cG _))
    | (go_at_call 14; exact calls_from (cM _))
    | (go_at_call 21; exact calls_from (cA _))
    | (go_at_call 15; exact calls_from (cW _))
    | (go_at_call 22; (with_reducible exact calls_from (c1 _)))
    | (go_at_call 22; (with_reducible exact calls_from (c2 _)))
    | (go_at_call 7; exact calls_from (cE _)))))
  refine wpQuiet_nil ?_
  intro _ hw'
  obtain ⟨p4, rfl⟩ := hw'
  have hb4 := p4.below
  generalize p4.W = w4 at hb4 ⊢
  go_wp2_with fail
  go_ret
  exact ⟨rfl, bt W3 hb4⟩

set_option maxRecDepth 100000 in
set_option maxHeartbeats 8000000 in
theorem pairs_near_a (a1 a2 b1 b2 x m1 m2 : Int) (w : World) (hm : meetS (a1, a2) (b1, b2) = (m1, m2)) (hne : nearB (a1, a2) = true) (hn : ¬ a2 ≤ a1) (q1 : (m1 == a1) = false) :
    Calls Try.prog 5 #[.agg #[.int .i64 a1, .int .i64 a2], .agg #[.int .i64 b1, .int .i64 b2], .int .i64 x] w fun e w' => e = .returned (.bool true) ∧ Below w.heap.size w w' := by
  have cM := fun W => meet_any a1 a2 b1 b2 W
  have cR := fun W => rmeet_any a1 a2 b1 b2 W
  have cA := fun W => apart_any a1 a2 b1 b2 W
  have cW := fun W => within_any a1 a2 b1 b2 W
  have cH := fun W => has_any a1 a2 x W
  have cG := fun W => rhas_any a1 a2 x W
  have cN := fun W => near_any a1 a2 W
  have c1 := fun W => rnone_any a1 a2 W
  have c2 := fun W => rnone_any m1 m2 W
  have cE := fun W => awake_any W
  have hl : a2 - a1 ≤ 9223372036854775807 := by
    unfold nearB at hne
    simp only [decide_eq_true_eq] at hne
    omega
  have cL := fun W => len_any a1 a2 W hl
  have cK := fun W => rlen_any a1 a2 W hl
  generalize lenS (a1, a2) = r0 at cL cK
  clear hl
  have e1 := apart_none (a1, a2) (b1, b2)
  rw [← meet_eq] at cR
  rw [e1] at cA
  rw [show decide (a2 ≤ a1) = false by simpa using hn] at c1
  rw [within_meet (a1, a2) (b1, b2) hn, hm, show decide ((m1, m2) = (a1, a2)) = false by simp only [beq_eq_false_iff_ne] at q1; simp [q1]] at cW
  rw [hm] at cM cR cA
  simp only at cA
  rw [hne] at cN
  clear e1 hm hne hn
  generalize decide (m2 ≤ m1) = r1 at cA c2
  generalize hasS (a1, a2) x = r2 at cH cG
  go_enter Try.func5, Try.ntmps5
  go_wp2_with fail
  refine (cR _).mono ?_
  rintro e w1 ⟨rfl, hb1⟩
  have hz1 : w.heap.size + 1 < w1.heap.size := by have := hb1.size; simp at this; omega
  have B1 : Below w.heap.size w w1 := bt (bl (bl (Below.refl _ _) _) _) hb1
  have k1 := (hb1.cell (p := ⟨w.heap.size, 0, none⟩) (by simp; omega)).trans (show _ = some (.int .i64 a1) by simp)
  have k2 := (hb1.cell (p := ⟨w.heap.size, 1, none⟩) (by simp; omega)).trans (show _ = some (.int .i64 a2) by simp)
  have k3 := (hb1.cell (p := ⟨w.heap.size + 1, 0, none⟩) (by simp)).trans (show _ = some (.int .i64 b1) by simp)
  have k4 := (hb1.cell (p := ⟨w.heap.size + 1, 1, none⟩) (by simp)).trans (show _ = some (.int .i64 b2) by simp)
  clear hb1
  go_wp2_with fail
  have W2 : Below w.heap.size w (w1.alloc (.cells #[.int .i64 m1, .int .i64 m2] 23)) := bl B1 _
  have k5 : (w1.alloc (.cells #[.int .i64 m1, .int .i64 m2] 23)).cell? ⟨w1.heap.size, 0, none⟩ = some (.int .i64 m1) := by simp
  have k6 : (w1.alloc (.cells #[.int .i64 m1, .int .i64 m2] 23)).cell? ⟨w1.heap.size, 1, none⟩ = some (.int .i64 m2) := by simp
  have j1 := (World.cell?_alloc_lt w1 (.cells #[.int .i64 m1, .int .i64 m2] 23) ⟨w.heap.size, 0, none⟩ (by show w.heap.size < _; omega)).trans k1
  have j2 := (World.cell?_alloc_lt w1 (.cells #[.int .i64 m1, .int .i64 m2] 23) ⟨w.heap.size, 1, none⟩ (by show w.heap.size < _; omega)).trans k2
  have j3 := (World.cell?_alloc_lt w1 (.cells #[.int .i64 m1, .int .i64 m2] 23) ⟨w.heap.size + 1, 0, none⟩ (by show w.heap.size + 1 < _; omega)).trans k3
  have j4 := (World.cell?_alloc_lt w1 (.cells #[.int .i64 m1, .int .i64 m2] 23) ⟨w.heap.size + 1, 1, none⟩ (by show w.heap.size + 1 < _; omega)).trans k4
  have z2 : w1.heap.size < (w1.alloc (.cells #[.int .i64 m1, .int .i64 m2] 23)).heap.size := by simp
  clear k1 k2 k3 k4 B1
  generalize (w1.alloc (.cells #[.int .i64 m1, .int .i64 m2] 23)) = w2 at j1 j2 j3 j4 k5 k6 z2 W2 ⊢
  have f1 := From.cell j1
  have f2 := From.cell j2
  refine wp_region_from (by kernel_rfl) (by kernel_rfl) ?_
  repeat (go_big_quiet_step ((first | (go_at_call 17; exact calls_from (cN _)) | (go_at_call 18; exact calls_from (cL _)) | (go_at_call 19; exact calls_from (cK _)))))
  refine wpQuiet_nil ?_
  intro _ hw'
  obtain ⟨p, rfl⟩ := hw'
  have i1 := From.cell j1 p
  have i2 := From.cell j2 p
  have i3 := From.cell j3 p
  have i4 := From.cell j4 p
  have i5 := From.cell k5 p
  have i6 := From.cell k6 p
  have hb3 := p.below
  generalize p.W = w3 at i1 i2 i3 i4 i5 i6 hb3 ⊢
  clear f1 f2 j1 j2 j3 j4 k5 k6
  go_wp2_with fail
  have W3 : Below w.heap.size w w3 := bt W2 hb3
  clear hb3 W2
  have g1 := From.cell i1
  have g2 := From.cell i2
  have g3 := From.cell i3
  have g4 := From.cell i4
  have g5 := From.cell i5
  have g6 := From.cell i6
  clear i1 i2 i3 i4 i5 i6
  refine wp_region_from (by kernel_rfl) (by kernel_rfl) ?_
  repeat (go_big_quiet_step ((first
    | (go_at_call 13; exact calls_from (cH _))
    | (go_at_call 20; exact calls_from (cG _))
    | (go_at_call 14; exact calls_from (cM _))
    | (go_at_call 21; exact calls_from (cA _))
    | (go_at_call 15; exact calls_from (cW _))
    | (go_at_call 22; (with_reducible exact calls_from (c1 _)))
    | (go_at_call 22; (with_reducible exact calls_from (c2 _)))
    | (go_at_call 7; exact calls_from (cE _)))))
  refine wpQuiet_nil ?_
  intro _ hw'
  obtain ⟨p4, rfl⟩ := hw'
  have hb4 := p4.below
  generalize p4.W = w4 at hb4 ⊢
  go_wp2_with fail
  go_ret
  exact ⟨rfl, bt W3 hb4⟩

set_option maxRecDepth 100000 in
set_option maxHeartbeats 8000000 in
theorem pairs_near_b (a1 a2 b1 b2 x m1 m2 : Int) (w : World) (hm : meetS (a1, a2) (b1, b2) = (m1, m2)) (hne : nearB (a1, a2) = true) (hn : ¬ a2 ≤ a1) (q1 : (m1 == a1) = true) (q2 : (m2 == a2) = false) :
    Calls Try.prog 5 #[.agg #[.int .i64 a1, .int .i64 a2], .agg #[.int .i64 b1, .int .i64 b2], .int .i64 x] w fun e w' => e = .returned (.bool true) ∧ Below w.heap.size w w' := by
  have cM := fun W => meet_any a1 a2 b1 b2 W
  have cR := fun W => rmeet_any a1 a2 b1 b2 W
  have cA := fun W => apart_any a1 a2 b1 b2 W
  have cW := fun W => within_any a1 a2 b1 b2 W
  have cH := fun W => has_any a1 a2 x W
  have cG := fun W => rhas_any a1 a2 x W
  have cN := fun W => near_any a1 a2 W
  have c1 := fun W => rnone_any a1 a2 W
  have c2 := fun W => rnone_any m1 m2 W
  have cE := fun W => awake_any W
  have hl : a2 - a1 ≤ 9223372036854775807 := by
    unfold nearB at hne
    simp only [decide_eq_true_eq] at hne
    omega
  have cL := fun W => len_any a1 a2 W hl
  have cK := fun W => rlen_any a1 a2 W hl
  generalize lenS (a1, a2) = r0 at cL cK
  clear hl
  have e1 := apart_none (a1, a2) (b1, b2)
  rw [← meet_eq] at cR
  rw [e1] at cA
  rw [show decide (a2 ≤ a1) = false by simpa using hn] at c1
  rw [within_meet (a1, a2) (b1, b2) hn, hm, show decide ((m1, m2) = (a1, a2)) = false by simp only [beq_eq_false_iff_ne] at q2; simp [q2]] at cW
  rw [hm] at cM cR cA
  simp only at cA
  rw [hne] at cN
  clear e1 hm hne hn
  generalize decide (m2 ≤ m1) = r1 at cA c2
  generalize hasS (a1, a2) x = r2 at cH cG
  go_enter Try.func5, Try.ntmps5
  go_wp2_with fail
  refine (cR _).mono ?_
  rintro e w1 ⟨rfl, hb1⟩
  have hz1 : w.heap.size + 1 < w1.heap.size := by have := hb1.size; simp at this; omega
  have B1 : Below w.heap.size w w1 := bt (bl (bl (Below.refl _ _) _) _) hb1
  have k1 := (hb1.cell (p := ⟨w.heap.size, 0, none⟩) (by simp; omega)).trans (show _ = some (.int .i64 a1) by simp)
  have k2 := (hb1.cell (p := ⟨w.heap.size, 1, none⟩) (by simp; omega)).trans (show _ = some (.int .i64 a2) by simp)
  have k3 := (hb1.cell (p := ⟨w.heap.size + 1, 0, none⟩) (by simp)).trans (show _ = some (.int .i64 b1) by simp)
  have k4 := (hb1.cell (p := ⟨w.heap.size + 1, 1, none⟩) (by simp)).trans (show _ = some (.int .i64 b2) by simp)
  clear hb1
  go_wp2_with fail
  have W2 : Below w.heap.size w (w1.alloc (.cells #[.int .i64 m1, .int .i64 m2] 23)) := bl B1 _
  have k5 : (w1.alloc (.cells #[.int .i64 m1, .int .i64 m2] 23)).cell? ⟨w1.heap.size, 0, none⟩ = some (.int .i64 m1) := by simp
  have k6 : (w1.alloc (.cells #[.int .i64 m1, .int .i64 m2] 23)).cell? ⟨w1.heap.size, 1, none⟩ = some (.int .i64 m2) := by simp
  have j1 := (World.cell?_alloc_lt w1 (.cells #[.int .i64 m1, .int .i64 m2] 23) ⟨w.heap.size, 0, none⟩ (by show w.heap.size < _; omega)).trans k1
  have j2 := (World.cell?_alloc_lt w1 (.cells #[.int .i64 m1, .int .i64 m2] 23) ⟨w.heap.size, 1, none⟩ (by show w.heap.size < _; omega)).trans k2
  have j3 := (World.cell?_alloc_lt w1 (.cells #[.int .i64 m1, .int .i64 m2] 23) ⟨w.heap.size + 1, 0, none⟩ (by show w.heap.size + 1 < _; omega)).trans k3
  have j4 := (World.cell?_alloc_lt w1 (.cells #[.int .i64 m1, .int .i64 m2] 23) ⟨w.heap.size + 1, 1, none⟩ (by show w.heap.size + 1 < _; omega)).trans k4
  have z2 : w1.heap.size < (w1.alloc (.cells #[.int .i64 m1, .int .i64 m2] 23)).heap.size := by simp
  clear k1 k2 k3 k4 B1
  generalize (w1.alloc (.cells #[.int .i64 m1, .int .i64 m2] 23)) = w2 at j1 j2 j3 j4 k5 k6 z2 W2 ⊢
  have f1 := From.cell j1
  have f2 := From.cell j2
  refine wp_region_from (by kernel_rfl) (by kernel_rfl) ?_
  repeat (go_big_quiet_step ((first | (go_at_call 17; exact calls_from (cN _)) | (go_at_call 18; exact calls_from (cL _)) | (go_at_call 19; exact calls_from (cK _)))))
  refine wpQuiet_nil ?_
  intro _ hw'
  obtain ⟨p, rfl⟩ := hw'
  have i1 := From.cell j1 p
  have i2 := From.cell j2 p
  have i3 := From.cell j3 p
  have i4 := From.cell j4 p
  have i5 := From.cell k5 p
  have i6 := From.cell k6 p
  have hb3 := p.below
  generalize p.W = w3 at i1 i2 i3 i4 i5 i6 hb3 ⊢
  clear f1 f2 j1 j2 j3 j4 k5 k6
  go_wp2_with fail
  have W3 : Below w.heap.size w w3 := bt W2 hb3
  clear hb3 W2
  have g1 := From.cell i1
  have g2 := From.cell i2
  have g3 := From.cell i3
  have g4 := From.cell i4
  have g5 := From.cell i5
  have g6 := From.cell i6
  clear i1 i2 i3 i4 i5 i6
  refine wp_region_from (by kernel_rfl) (by kernel_rfl) ?_
  repeat (go_big_quiet_step ((first
    | (go_at_call 13; exact calls_from (cH _))
    | (go_at_call 20; exact calls_from (cG _))
    | (go_at_call 14; exact calls_from (cM _))
    | (go_at_call 21; exact calls_from (cA _))
    | (go_at_call 15; exact calls_from (cW _))
    | (go_at_call 22; (with_reducible exact calls_from (c1 _)))
    | (go_at_call 22; (with_reducible exact calls_from (c2 _)))
    | (go_at_call 7; exact calls_from (cE _)))))
  refine wpQuiet_nil ?_
  intro _ hw'
  obtain ⟨p4, rfl⟩ := hw'
  have hb4 := p4.below
  generalize p4.W = w4 at hb4 ⊢
  go_wp2_with fail
  go_ret
  exact ⟨rfl, bt W3 hb4⟩

set_option maxRecDepth 100000 in
set_option maxHeartbeats 8000000 in
theorem pairs_far_none (a1 a2 b1 b2 x m1 m2 : Int) (w : World) (hm : meetS (a1, a2) (b1, b2) = (m1, m2)) (hne : nearB (a1, a2) = false) (hn : a2 ≤ a1) :
    Calls Try.prog 5 #[.agg #[.int .i64 a1, .int .i64 a2], .agg #[.int .i64 b1, .int .i64 b2], .int .i64 x] w fun e w' => e = .returned (.bool true) ∧ Below w.heap.size w w' := by
  have cM := fun W => meet_any a1 a2 b1 b2 W
  have cR := fun W => rmeet_any a1 a2 b1 b2 W
  have cA := fun W => apart_any a1 a2 b1 b2 W
  have cW := fun W => within_any a1 a2 b1 b2 W
  have cH := fun W => has_any a1 a2 x W
  have cG := fun W => rhas_any a1 a2 x W
  have cN := fun W => near_any a1 a2 W
  have c1 := fun W => rnone_any a1 a2 W
  have c2 := fun W => rnone_any m1 m2 W
  have cE := fun W => awake_any W
  have e1 := apart_none (a1, a2) (b1, b2)
  rw [← meet_eq] at cR
  rw [e1] at cA
  rw [show decide (a2 ≤ a1) = true by simpa using hn] at c1
  rw [show withinS (a1, a2) (b1, b2) = true by unfold withinS; simp [hn]] at cW
  rw [hm] at cM cR cA
  simp only at cA
  rw [hne] at cN
  clear e1 hm hne hn
  generalize decide (m2 ≤ m1) = r1 at cA c2
  generalize hasS (a1, a2) x = r2 at cH cG
  go_enter Try.func5, Try.ntmps5
  go_wp2_with fail
  refine (cR _).mono ?_
  rintro e w1 ⟨rfl, hb1⟩
  have hz1 : w.heap.size + 1 < w1.heap.size := by have := hb1.size; simp at this; omega
  have B1 : Below w.heap.size w w1 := bt (bl (bl (Below.refl _ _) _) _) hb1
  have k1 := (hb1.cell (p := ⟨w.heap.size, 0, none⟩) (by simp; omega)).trans (show _ = some (.int .i64 a1) by simp)
  have k2 := (hb1.cell (p := ⟨w.heap.size, 1, none⟩) (by simp; omega)).trans (show _ = some (.int .i64 a2) by simp)
  have k3 := (hb1.cell (p := ⟨w.heap.size + 1, 0, none⟩) (by simp)).trans (show _ = some (.int .i64 b1) by simp)
  have k4 := (hb1.cell (p := ⟨w.heap.size + 1, 1, none⟩) (by simp)).trans (show _ = some (.int .i64 b2) by simp)
  clear hb1
  go_wp2_with fail
  have W2 : Below w.heap.size w (w1.alloc (.cells #[.int .i64 m1, .int .i64 m2] 23)) := bl B1 _
  have k5 : (w1.alloc (.cells #[.int .i64 m1, .int .i64 m2] 23)).cell? ⟨w1.heap.size, 0, none⟩ = some (.int .i64 m1) := by simp
  have k6 : (w1.alloc (.cells #[.int .i64 m1, .int .i64 m2] 23)).cell? ⟨w1.heap.size, 1, none⟩ = some (.int .i64 m2) := by simp
  have j1 := (World.cell?_alloc_lt w1 (.cells #[.int .i64 m1, .int .i64 m2] 23) ⟨w.heap.size, 0, none⟩ (by show w.heap.size < _; omega)).trans k1
  have j2 := (World.cell?_alloc_lt w1 (.cells #[.int .i64 m1, .int .i64 m2] 23) ⟨w.heap.size, 1, none⟩ (by show w.heap.size < _; omega)).trans k2
  have j3 := (World.cell?_alloc_lt w1 (.cells #[.int .i64 m1, .int .i64 m2] 23) ⟨w.heap.size + 1, 0, none⟩ (by show w.heap.size + 1 < _; omega)).trans k3
  have j4 := (World.cell?_alloc_lt w1 (.cells #[.int .i64 m1, .int .i64 m2] 23) ⟨w.heap.size + 1, 1, none⟩ (by show w.heap.size + 1 < _; omega)).trans k4
  have z2 : w1.heap.size < (w1.alloc (.cells #[.int .i64 m1, .int .i64 m2] 23)).heap.size := by simp
  clear k1 k2 k3 k4 B1
  generalize (w1.alloc (.cells #[.int .i64 m1, .int .i64 m2] 23)) = w2 at j1 j2 j3 j4 k5 k6 z2 W2 ⊢
  have f1 := From.cell j1
  have f2 := From.cell j2
  refine wp_region_from (by kernel_rfl) (by kernel_rfl) ?_
  repeat (go_big_quiet_step ((go_at_call 17; exact calls_from (cN _))))
  refine wpQuiet_nil ?_
  intro _ hw'
  obtain ⟨p, rfl⟩ := hw'
  have i1 := From.cell j1 p
  have i2 := From.cell j2 p
  have i3 := From.cell j3 p
  have i4 := From.cell j4 p
  have i5 := From.cell k5 p
  have i6 := From.cell k6 p
  have hb3 := p.below
  generalize p.W = w3 at i1 i2 i3 i4 i5 i6 hb3 ⊢
  clear f1 f2 j1 j2 j3 j4 k5 k6
  go_wp2_with fail
  have W3 : Below w.heap.size w w3 := bt W2 hb3
  clear hb3 W2
  have g1 := From.cell i1
  have g2 := From.cell i2
  have g3 := From.cell i3
  have g4 := From.cell i4
  have g5 := From.cell i5
  have g6 := From.cell i6
  clear i1 i2 i3 i4 i5 i6
  refine wp_region_from (by kernel_rfl) (by kernel_rfl) ?_
  repeat (go_big_quiet_step ((first
    | (go_at_call 13; exact calls_from (cH _))
    | (go_at_call 20; exact calls_from (cG _))
    | (go_at_call 14; exact calls_from (cM _))
    | (go_at_call 21; exact calls_from (cA _))
    | (go_at_call 15; exact calls_from (cW _))
    | (go_at_call 22; (with_reducible exact calls_from (c1 _)))
    | (go_at_call 22; (with_reducible exact calls_from (c2 _)))
    | (go_at_call 7; exact calls_from (cE _)))))
  refine wpQuiet_nil ?_
  intro _ hw'
  obtain ⟨p4, rfl⟩ := hw'
  have hb4 := p4.below
  generalize p4.W = w4 at hb4 ⊢
  go_wp2_with fail
  go_ret
  exact ⟨rfl, bt W3 hb4⟩

set_option maxRecDepth 100000 in
set_option maxHeartbeats 8000000 in
theorem pairs_far_same (a1 a2 b1 b2 x m1 m2 : Int) (w : World) (hm : meetS (a1, a2) (b1, b2) = (m1, m2)) (hne : nearB (a1, a2) = false) (hn : ¬ a2 ≤ a1) (q1 : (m1 == a1) = true) (q2 : (m2 == a2) = true) :
    Calls Try.prog 5 #[.agg #[.int .i64 a1, .int .i64 a2], .agg #[.int .i64 b1, .int .i64 b2], .int .i64 x] w fun e w' => e = .returned (.bool true) ∧ Below w.heap.size w w' := by
  have cM := fun W => meet_any a1 a2 b1 b2 W
  have cR := fun W => rmeet_any a1 a2 b1 b2 W
  have cA := fun W => apart_any a1 a2 b1 b2 W
  have cW := fun W => within_any a1 a2 b1 b2 W
  have cH := fun W => has_any a1 a2 x W
  have cG := fun W => rhas_any a1 a2 x W
  have cN := fun W => near_any a1 a2 W
  have c1 := fun W => rnone_any a1 a2 W
  have c2 := fun W => rnone_any m1 m2 W
  have cE := fun W => awake_any W
  have e1 := apart_none (a1, a2) (b1, b2)
  rw [← meet_eq] at cR
  rw [e1] at cA
  rw [show decide (a2 ≤ a1) = false by simpa using hn] at c1
  rw [within_meet (a1, a2) (b1, b2) hn, hm, show decide ((m1, m2) = (a1, a2)) = true by simp only [beq_iff_eq] at q1 q2; rw [q1, q2]; simp] at cW
  rw [hm] at cM cR cA
  simp only at cA
  rw [hne] at cN
  clear e1 hm hne hn
  generalize decide (m2 ≤ m1) = r1 at cA c2
  generalize hasS (a1, a2) x = r2 at cH cG
  go_enter Try.func5, Try.ntmps5
  go_wp2_with fail
  refine (cR _).mono ?_
  rintro e w1 ⟨rfl, hb1⟩
  have hz1 : w.heap.size + 1 < w1.heap.size := by have := hb1.size; simp at this; omega
  have B1 : Below w.heap.size w w1 := bt (bl (bl (Below.refl _ _) _) _) hb1
  have k1 := (hb1.cell (p := ⟨w.heap.size, 0, none⟩) (by simp; omega)).trans (show _ = some (.int .i64 a1) by simp)
  have k2 := (hb1.cell (p := ⟨w.heap.size, 1, none⟩) (by simp; omega)).trans (show _ = some (.int .i64 a2) by simp)
  have k3 := (hb1.cell (p := ⟨w.heap.size + 1, 0, none⟩) (by simp)).trans (show _ = some (.int .i64 b1) by simp)
  have k4 := (hb1.cell (p := ⟨w.heap.size + 1, 1, none⟩) (by simp)).trans (show _ = some (.int .i64 b2) by simp)
  clear hb1
  go_wp2_with fail
  have W2 : Below w.heap.size w (w1.alloc (.cells #[.int .i64 m1, .int .i64 m2] 23)) := bl B1 _
  have k5 : (w1.alloc (.cells #[.int .i64 m1, .int .i64 m2] 23)).cell? ⟨w1.heap.size, 0, none⟩ = some (.int .i64 m1) := by simp
  have k6 : (w1.alloc (.cells #[.int .i64 m1, .int .i64 m2] 23)).cell? ⟨w1.heap.size, 1, none⟩ = some (.int .i64 m2) := by simp
  have j1 := (World.cell?_alloc_lt w1 (.cells #[.int .i64 m1, .int .i64 m2] 23) ⟨w.heap.size, 0, none⟩ (by show w.heap.size < _; omega)).trans k1
  have j2 := (World.cell?_alloc_lt w1 (.cells #[.int .i64 m1, .int .i64 m2] 23) ⟨w.heap.size, 1, none⟩ (by show w.heap.size < _; omega)).trans k2
  have j3 := (World.cell?_alloc_lt w1 (.cells #[.int .i64 m1, .int .i64 m2] 23) ⟨w.heap.size + 1, 0, none⟩ (by show w.heap.size + 1 < _; omega)).trans k3
  have j4 := (World.cell?_alloc_lt w1 (.cells #[.int .i64 m1, .int .i64 m2] 23) ⟨w.heap.size + 1, 1, none⟩ (by show w.heap.size + 1 < _; omega)).trans k4
  have z2 : w1.heap.size < (w1.alloc (.cells #[.int .i64 m1, .int .i64 m2] 23)).heap.size := by simp
  clear k1 k2 k3 k4 B1
  generalize (w1.alloc (.cells #[.int .i64 m1, .int .i64 m2] 23)) = w2 at j1 j2 j3 j4 k5 k6 z2 W2 ⊢
  have f1 := From.cell j1
  have f2 := From.cell j2
  refine wp_region_from (by kernel_rfl) (by kernel_rfl) ?_
  repeat (go_big_quiet_step ((go_at_call 17; exact calls_from (cN _))))
  refine wpQuiet_nil ?_
  intro _ hw'
  obtain ⟨p, rfl⟩ := hw'
  have i1 := From.cell j1 p
  have i2 := From.cell j2 p
  have i3 := From.cell j3 p
  have i4 := From.cell j4 p
  have i5 := From.cell k5 p
  have i6 := From.cell k6 p
  have hb3 := p.below
  generalize p.W = w3 at i1 i2 i3 i4 i5 i6 hb3 ⊢
  clear f1 f2 j1 j2 j3 j4 k5 k6
  go_wp2_with fail
  have W3 : Below w.heap.size w w3 := bt W2 hb3
  clear hb3 W2
  have g1 := From.cell i1
  have g2 := From.cell i2
  have g3 := From.cell i3
  have g4 := From.cell i4
  have g5 := From.cell i5
  have g6 := From.cell i6
  clear i1 i2 i3 i4 i5 i6
  refine wp_region_from (by kernel_rfl) (by kernel_rfl) ?_
  repeat (go_big_quiet_step ((first
    | (go_at_call 13; exact calls_from (cH _))
    | (go_at_call 20; exact calls_from (cG _))
    | (go_at_call 14; exact calls_from (cM _))
    | (go_at_call 21; exact calls_from (cA _))
    | (go_at_call 15; exact calls_from (cW _))
    | (go_at_call 22; (with_reducible exact calls_from (c1 _)))
    | (go_at_call 22; (with_reducible exact calls_from (c2 _)))
    | (go_at_call 7; exact calls_from (cE _)))))
  refine wpQuiet_nil ?_
  intro _ hw'
  obtain ⟨p4, rfl⟩ := hw'
  have hb4 := p4.below
  generalize p4.W = w4 at hb4 ⊢
  go_wp2_with fail
  go_ret
  exact ⟨rfl, bt W3 hb4⟩

set_option maxRecDepth 100000 in
set_option maxHeartbeats 8000000 in
theorem pairs_far_a (a1 a2 b1 b2 x m1 m2 : Int) (w : World) (hm : meetS (a1, a2) (b1, b2) = (m1, m2)) (hne : nearB (a1, a2) = false) (hn : ¬ a2 ≤ a1) (q1 : (m1 == a1) = false) :
    Calls Try.prog 5 #[.agg #[.int .i64 a1, .int .i64 a2], .agg #[.int .i64 b1, .int .i64 b2], .int .i64 x] w fun e w' => e = .returned (.bool true) ∧ Below w.heap.size w w' := by
  have cM := fun W => meet_any a1 a2 b1 b2 W
  have cR := fun W => rmeet_any a1 a2 b1 b2 W
  have cA := fun W => apart_any a1 a2 b1 b2 W
  have cW := fun W => within_any a1 a2 b1 b2 W
  have cH := fun W => has_any a1 a2 x W
  have cG := fun W => rhas_any a1 a2 x W
  have cN := fun W => near_any a1 a2 W
  have c1 := fun W => rnone_any a1 a2 W
  have c2 := fun W => rnone_any m1 m2 W
  have cE := fun W => awake_any W
  have e1 := apart_none (a1, a2) (b1, b2)
  rw [← meet_eq] at cR
  rw [e1] at cA
  rw [show decide (a2 ≤ a1) = false by simpa using hn] at c1
  rw [within_meet (a1, a2) (b1, b2) hn, hm, show decide ((m1, m2) = (a1, a2)) = false by simp only [beq_eq_false_iff_ne] at q1; simp [q1]] at cW
  rw [hm] at cM cR cA
  simp only at cA
  rw [hne] at cN
  clear e1 hm hne hn
  generalize decide (m2 ≤ m1) = r1 at cA c2
  generalize hasS (a1, a2) x = r2 at cH cG
  go_enter Try.func5, Try.ntmps5
  go_wp2_with fail
  refine (cR _).mono ?_
  rintro e w1 ⟨rfl, hb1⟩
  have hz1 : w.heap.size + 1 < w1.heap.size := by have := hb1.size; simp at this; omega
  have B1 : Below w.heap.size w w1 := bt (bl (bl (Below.refl _ _) _) _) hb1
  have k1 := (hb1.cell (p := ⟨w.heap.size, 0, none⟩) (by simp; omega)).trans (show _ = some (.int .i64 a1) by simp)
  have k2 := (hb1.cell (p := ⟨w.heap.size, 1, none⟩) (by simp; omega)).trans (show _ = some (.int .i64 a2) by simp)
  have k3 := (hb1.cell (p := ⟨w.heap.size + 1, 0, none⟩) (by simp)).trans (show _ = some (.int .i64 b1) by simp)
  have k4 := (hb1.cell (p := ⟨w.heap.size + 1, 1, none⟩) (by simp)).trans (show _ = some (.int .i64 b2) by simp)
  clear hb1
  go_wp2_with fail
  have W2 : Below w.heap.size w (w1.alloc (.cells #[.int .i64 m1, .int .i64 m2] 23)) := bl B1 _
  have k5 : (w1.alloc (.cells #[.int .i64 m1, .int .i64 m2] 23)).cell? ⟨w1.heap.size, 0, none⟩ = some (.int .i64 m1) := by simp
  have k6 : (w1.alloc (.cells #[.int .i64 m1, .int .i64 m2] 23)).cell? ⟨w1.heap.size, 1, none⟩ = some (.int .i64 m2) := by simp
  have j1 := (World.cell?_alloc_lt w1 (.cells #[.int .i64 m1, .int .i64 m2] 23) ⟨w.heap.size, 0, none⟩ (by show w.heap.size < _; omega)).trans k1
  have j2 := (World.cell?_alloc_lt w1 (.cells #[.int .i64 m1, .int .i64 m2] 23) ⟨w.heap.size, 1, none⟩ (by show w.heap.size < _; omega)).trans k2
  have j3 := (World.cell?_alloc_lt w1 (.cells #[.int .i64 m1, .int .i64 m2] 23) ⟨w.heap.size + 1, 0, none⟩ (by show w.heap.size + 1 < _; omega)).trans k3
  have j4 := (World.cell?_alloc_lt w1 (.cells #[.int .i64 m1, .int .i64 m2] 23) ⟨w.heap.size + 1, 1, none⟩ (by show w.heap.size + 1 < _; omega)).trans k4
  have z2 : w1.heap.size < (w1.alloc (.cells #[.int .i64 m1, .int .i64 m2] 23)).heap.size := by simp
  clear k1 k2 k3 k4 B1
  generalize (w1.alloc (.cells #[.int .i64 m1, .int .i64 m2] 23)) = w2 at j1 j2 j3 j4 k5 k6 z2 W2 ⊢
  have f1 := From.cell j1
  have f2 := From.cell j2
  refine wp_region_from (by kernel_rfl) (by kernel_rfl) ?_
  repeat (go_big_quiet_step ((go_at_call 17; exact calls_from (cN _))))
  refine wpQuiet_nil ?_
  intro _ hw'
  obtain ⟨p, rfl⟩ := hw'
  have i1 := From.cell j1 p
  have i2 := From.cell j2 p
  have i3 := From.cell j3 p
  have i4 := From.cell j4 p
  have i5 := From.cell k5 p
  have i6 := From.cell k6 p
  have hb3 := p.below
  generalize p.W = w3 at i1 i2 i3 i4 i5 i6 hb3 ⊢
  clear f1 f2 j1 j2 j3 j4 k5 k6
  go_wp2_with fail
  have W3 : Below w.heap.size w w3 := bt W2 hb3
  clear hb3 W2
  have g1 := From.cell i1
  have g2 := From.cell i2
  have g3 := From.cell i3
  have g4 := From.cell i4
  have g5 := From.cell i5
  have g6 := From.cell i6
  clear i1 i2 i3 i4 i5 i6
  refine wp_region_from (by kernel_rfl) (by kernel_rfl) ?_
  repeat (go_big_quiet_step ((first
    | (go_at_call 13; exact calls_from (cH _))
    | (go_at_call 20; exact calls_from (cG _))
    | (go_at_call 14; exact calls_from (cM _))
    | (go_at_call 21; exact calls_from (cA _))
    | (go_at_call 15; exact calls_from (cW _))
    | (go_at_call 22; (with_reducible exact calls_from (c1 _)))
    | (go_at_call 22; (with_reducible exact calls_from (c2 _)))
    | (go_at_call 7; exact calls_from (cE _)))))
  refine wpQuiet_nil ?_
  intro _ hw'
  obtain ⟨p4, rfl⟩ := hw'
  have hb4 := p4.below
  generalize p4.W = w4 at hb4 ⊢
  go_wp2_with fail
  go_ret
  exact ⟨rfl, bt W3 hb4⟩

set_option maxRecDepth 100000 in
set_option maxHeartbeats 8000000 in
theorem pairs_far_b (a1 a2 b1 b2 x m1 m2 : Int) (w : World) (hm : meetS (a1, a2) (b1, b2) = (m1, m2)) (hne : nearB (a1, a2) = false) (hn : ¬ a2 ≤ a1) (q1 : (m1 == a1) = true) (q2 : (m2 == a2) = false) :
    Calls Try.prog 5 #[.agg #[.int .i64 a1, .int .i64 a2], .agg #[.int .i64 b1, .int .i64 b2], .int .i64 x] w fun e w' => e = .returned (.bool true) ∧ Below w.heap.size w w' := by
  have cM := fun W => meet_any a1 a2 b1 b2 W
  have cR := fun W => rmeet_any a1 a2 b1 b2 W
  have cA := fun W => apart_any a1 a2 b1 b2 W
  have cW := fun W => within_any a1 a2 b1 b2 W
  have cH := fun W => has_any a1 a2 x W
  have cG := fun W => rhas_any a1 a2 x W
  have cN := fun W => near_any a1 a2 W
  have c1 := fun W => rnone_any a1 a2 W
  have c2 := fun W => rnone_any m1 m2 W
  have cE := fun W => awake_any W
  have e1 := apart_none (a1, a2) (b1, b2)
  rw [← meet_eq] at cR
  rw [e1] at cA
  rw [show decide (a2 ≤ a1) = false by simpa using hn] at c1
  rw [within_meet (a1, a2) (b1, b2) hn, hm, show decide ((m1, m2) = (a1, a2)) = false by simp only [beq_eq_false_iff_ne] at q2; simp [q2]] at cW
  rw [hm] at cM cR cA
  simp only at cA
  rw [hne] at cN
  clear e1 hm hne hn
  generalize decide (m2 ≤ m1) = r1 at cA c2
  generalize hasS (a1, a2) x = r2 at cH cG
  go_enter Try.func5, Try.ntmps5
  go_wp2_with fail
  refine (cR _).mono ?_
  rintro e w1 ⟨rfl, hb1⟩
  have hz1 : w.heap.size + 1 < w1.heap.size := by have := hb1.size; simp at this; omega
  have B1 : Below w.heap.size w w1 := bt (bl (bl (Below.refl _ _) _) _) hb1
  have k1 := (hb1.cell (p := ⟨w.heap.size, 0, none⟩) (by simp; omega)).trans (show _ = some (.int .i64 a1) by simp)
  have k2 := (hb1.cell (p := ⟨w.heap.size, 1, none⟩) (by simp; omega)).trans (show _ = some (.int .i64 a2) by simp)
  have k3 := (hb1.cell (p := ⟨w.heap.size + 1, 0, none⟩) (by simp)).trans (show _ = some (.int .i64 b1) by simp)
  have k4 := (hb1.cell (p := ⟨w.heap.size + 1, 1, none⟩) (by simp)).trans (show _ = some (.int .i64 b2) by simp)
  clear hb1
  go_wp2_with fail
  have W2 : Below w.heap.size w (w1.alloc (.cells #[.int .i64 m1, .int .i64 m2] 23)) := bl B1 _
  have k5 : (w1.alloc (.cells #[.int .i64 m1, .int .i64 m2] 23)).cell? ⟨w1.heap.size, 0, none⟩ = some (.int .i64 m1) := by simp
  have k6 : (w1.alloc (.cells #[.int .i64 m1, .int .i64 m2] 23)).cell? ⟨w1.heap.size, 1, none⟩ = some (.int .i64 m2) := by simp
  have j1 := (World.cell?_alloc_lt w1 (.cells #[.int .i64 m1, .int .i64 m2] 23) ⟨w.heap.size, 0, none⟩ (by show w.heap.size < _; omega)).trans k1
  have j2 := (World.cell?_alloc_lt w1 (.cells #[.int .i64 m1, .int .i64 m2] 23) ⟨w.heap.size, 1, none⟩ (by show w.heap.size < _; omega)).trans k2
  have j3 := (World.cell?_alloc_lt w1 (.cells #[.int .i64 m1, .int .i64 m2] 23) ⟨w.heap.size + 1, 0, none⟩ (by show w.heap.size + 1 < _; omega)).trans k3
  have j4 := (World.cell?_alloc_lt w1 (.cells #[.int .i64 m1, .int .i64 m2] 23) ⟨w.heap.size + 1, 1, none⟩ (by show w.heap.size + 1 < _; omega)).trans k4
  have z2 : w1.heap.size < (w1.alloc (.cells #[.int .i64 m1, .int .i64 m2] 23)).heap.size := by simp
  clear k1 k2 k3 k4 B1
  generalize (w1.alloc (.cells #[.int .i64 m1, .int .i64 m2] 23)) = w2 at j1 j2 j3 j4 k5 k6 z2 W2 ⊢
  have f1 := From.cell j1
  have f2 := From.cell j2
  refine wp_region_from (by kernel_rfl) (by kernel_rfl) ?_
  repeat (go_big_quiet_step ((go_at_call 17; exact calls_from (cN _))))
  refine wpQuiet_nil ?_
  intro _ hw'
  obtain ⟨p, rfl⟩ := hw'
  have i1 := From.cell j1 p
  have i2 := From.cell j2 p
  have i3 := From.cell j3 p
  have i4 := From.cell j4 p
  have i5 := From.cell k5 p
  have i6 := From.cell k6 p
  have hb3 := p.below
  generalize p.W = w3 at i1 i2 i3 i4 i5 i6 hb3 ⊢
  clear f1 f2 j1 j2 j3 j4 k5 k6
  go_wp2_with fail
  have W3 : Below w.heap.size w w3 := bt W2 hb3
  clear hb3 W2
  have g1 := From.cell i1
  have g2 := From.cell i2
  have g3 := From.cell i3
  have g4 := From.cell i4
  have g5 := From.cell i5
  have g6 := From.cell i6
  clear i1 i2 i3 i4 i5 i6
  refine wp_region_from (by kernel_rfl) (by kernel_rfl) ?_
  repeat (go_big_quiet_step ((first
    | (go_at_call 13; exact calls_from (cH _))
    | (go_at_call 20; exact calls_from (cG _))
    | (go_at_call 14; exact calls_from (cM _))
    | (go_at_call 21; exact calls_from (cA _))
    | (go_at_call 15; exact calls_from (cW _))
    | (go_at_call 22; (with_reducible exact calls_from (c1 _)))
    | (go_at_call 22; (with_reducible exact calls_from (c2 _)))
    | (go_at_call 7; exact calls_from (cE _)))))
  refine wpQuiet_nil ?_
  intro _ hw'
  obtain ⟨p4, rfl⟩ := hw'
  have hb4 := p4.below
  generalize p4.W = w4 at hb4 ⊢
  go_wp2_with fail
  go_ret
  exact ⟨rfl, bt W3 hb4⟩

theorem pairs_any (a1 a2 b1 b2 x : Int) (w : World) :
    Calls Try.prog 5 #[.agg #[.int .i64 a1, .int .i64 a2], .agg #[.int .i64 b1, .int .i64 b2], .int .i64 x] w fun e w' => e = .returned (.bool true) ∧ Below w.heap.size w w' := by
  obtain ⟨⟨m1, m2⟩, hm⟩ : ∃ m, meetS (a1, a2) (b1, b2) = m := ⟨_, rfl⟩
  cases hne : nearB (a1, a2) with
  | true =>
    by_cases hn : a2 ≤ a1
    · exact pairs_near_none a1 a2 b1 b2 x m1 m2 w hm hne hn
    · cases q1 : (m1 == a1) with
      | false => exact pairs_near_a a1 a2 b1 b2 x m1 m2 w hm hne hn q1
      | true =>
        cases q2 : (m2 == a2) with
        | false => exact pairs_near_b a1 a2 b1 b2 x m1 m2 w hm hne hn q1 q2
        | true => exact pairs_near_same a1 a2 b1 b2 x m1 m2 w hm hne hn q1 q2
  | false =>
    by_cases hn : a2 ≤ a1
    · exact pairs_far_none a1 a2 b1 b2 x m1 m2 w hm hne hn
    · cases q1 : (m1 == a1) with
      | false => exact pairs_far_a a1 a2 b1 b2 x m1 m2 w hm hne hn q1
      | true =>
        cases q2 : (m2 == a2) with
        | false => exact pairs_far_b a1 a2 b1 b2 x m1 m2 w hm hne hn q1 q2
        | true => exact pairs_far_same a1 a2 b1 b2 x m1 m2 w hm hne hn q1 q2

end Go.Proofs.Ytodocdcnealijaa
