/-
  gatefoldlaw32.RangesNumbers returns true at whatever choices, span, number; below the heap's size nothing turns.
-/
import Derived.Test.YtbbaaaomncegiaaDoorRba
import Derived.Test.YtbbaaaomncegiaaDoorRnv
import Derived.Deep.RegionHeld3
namespace Go.Proofs.YtbbaaaomncegiaaDoor
open Go.RowKit Go.Proofs.Spn Go.Proofs.Rng Go.Proofs.Prn

structure NCtx (w W : World) (m s1 s2 : Int) : Prop where
  ctx : Ctx w W m
  c0 : W.cell? ⟨w.heap.size, 0, none⟩ = some (.int .i64 s1)
  c1 : W.cell? ⟨w.heap.size, 1, none⟩ = some (.int .i64 s2)
theorem NCtx.on {w W W' : World} {m s1 s2 : Int} (h : NCtx w W m s1 s2) (hb : Below W.heap.size W W') : NCtx w W' m s1 s2 :=
  ⟨h.ctx.on hb, cell_keep h.c0 hb, cell_keep h.c1 hb⟩
theorem NCtx.start {w : World} {m s1 s2 : Int} (hT : Tab w) (hm : w.cell? ⟨0, 0, none⟩ = some (.int .i64 m)) : NCtx w (w.alloc (.cells #[.int .i64 s1, .int .i64 s2] 32)) m s1 s2 :=
  ⟨(Ctx.start hT hm).on (bl (Below.refl _ _) _), by simp, by simp⟩

set_option maxHeartbeats 8000000 in
set_option maxRecDepth 100000 in
theorem nums_long (A B : Option Addr) (c d : Nat) (xs ys : List Sp) (s1 s2 no : Int) (m : Int) (w : World) (hT : Tab w) (hm : w.cell? ⟨0, 0, none⟩ = some (.int .i64 m)) (h : 60 < xs.length ∨ 60 < ys.length) :
    Calls Tryd.prog 4 #[.slice A xs.length c, .slice B ys.length d, .agg #[.int .i64 s1, .int .i64 s2], .int .i64 no] w fun e w' => e = .returned (.bool true) ∧ Below w.heap.size w w' := by
  have HN0 := Lib.hid (NCtx.start (s1 := s1) (s2 := s2) hT hm)
  have HC := Lib.hid (awake_any m _ HN0.out.ctx.tab HN0.out.ctx.len)
  clear hT hm
  by_cases h1 : (60 : Int) < (xs.length : Int)
  · have g1 : decide ((60 : Int) < (xs.length : Int)) = true := decide_eq_true h1
    clear h
    go_enter Tryd.func4, Tryd.ntmps4
    go_wp2_with fail
    refine HC.out.mono ?_
    rintro e w1 ⟨rfl, hb1⟩
    go_wp2_with fail
    go_ret
    exact ⟨rfl, bt HN0.out.ctx.below hb1⟩
  · have g1 : decide ((60 : Int) < (xs.length : Int)) = false := decide_eq_false h1
    have h2 : (60 : Int) < (ys.length : Int) := by omega
    have g2 : decide ((60 : Int) < (ys.length : Int)) = true := decide_eq_true h2
    clear h
    go_enter Tryd.func4, Tryd.ntmps4
    go_wp2_with fail
    refine HC.out.mono ?_
    rintro e w1 ⟨rfl, hb1⟩
    go_wp2_with fail
    go_ret
    exact ⟨rfl, bt HN0.out.ctx.below hb1⟩

set_option maxHeartbeats 8000000 in
set_option maxRecDepth 100000 in
theorem nums_no (A B : Option Addr) (c d : Nat) (xs ys : List Sp) (s1 s2 no : Int) (m : Int) (w : World) (hA : Spans w A xs) (hB : Spans w B ys) (hT : Tab w) (hm : w.cell? ⟨0, 0, none⟩ = some (.int .i64 m)) (h1 : xs.length ≤ 60) (h2 : ys.length ≤ 60) (h : ¬ May xs ∨ ¬ May ys) :
    Calls Tryd.prog 4 #[.slice A xs.length c, .slice B ys.length d, .agg #[.int .i64 s1, .int .i64 s2], .int .i64 no] w fun e w' => e = .returned (.bool true) ∧ Below w.heap.size w w' := by
  have HN0 := Lib.hid (NCtx.start (s1 := s1) (s2 := s2) hT hm)
  have HA := Lib.hid hA
  have HB := Lib.hid hB
  have g1 : ¬ (60 : Int) < (xs.length : Int) := by omega
  have g2 : ¬ (60 : Int) < (ys.length : Int) := by omega
  have d1 : decide ((60 : Int) < (xs.length : Int)) = false := decide_eq_false g1
  have d2 : decide ((60 : Int) < (ys.length : Int)) = false := decide_eq_false g2
  clear hA hB hT hm
  by_cases hM : May xs
  · have hmx := (mayB_iff xs).2 hM
    have hmy : mayB ys = false := mayB_no.2 (by rcases h with h | h; exact absurd hM h; exact h)
    clear h hM
    go_enter Tryd.func4, Tryd.ntmps4
    go_wp2_with fail
    refine (may_any A c xs _ (HA.out.below HN0.out.ctx.below) (by omega)).mono ?_
    rw [hmx]
    rintro e w1 ⟨rfl, hb1⟩
    have HN1 := Lib.hid (HN0.out.on hb1)
    clear hb1 HN0
    go_wp2_with fail
    refine (may_any B d ys _ (HB.out.below HN1.out.ctx.below) (by omega)).mono ?_
    rw [hmy]
    rintro e w2 ⟨rfl, hb2⟩
    have HN2 := Lib.hid (HN1.out.on hb2)
    clear hb2 HN1
    go_wp2_with fail
    refine (awake_any m _ HN2.out.ctx.tab HN2.out.ctx.len).mono ?_
    rintro e w3 ⟨rfl, hb3⟩
    go_wp2_with fail
    go_ret
    exact ⟨rfl, bt HN2.out.ctx.below hb3⟩
  · have hmx : mayB xs = false := mayB_no.2 hM
    clear h hM
    go_enter Tryd.func4, Tryd.ntmps4
    go_wp2_with fail
    refine (may_any A c xs _ (HA.out.below HN0.out.ctx.below) (by omega)).mono ?_
    rw [hmx]
    rintro e w1 ⟨rfl, hb1⟩
    have HN1 := Lib.hid (HN0.out.on hb1)
    clear hb1 HN0
    go_wp2_with fail
    refine (awake_any m _ HN1.out.ctx.tab HN1.out.ctx.len).mono ?_
    rintro e w3 ⟨rfl, hb3⟩
    go_wp2_with fail
    go_ret
    exact ⟨rfl, bt HN1.out.ctx.below hb3⟩
end Go.Proofs.YtbbaaaomncegiaaDoor
