/-
  gatefoldlaw33.SheetsAt, walked: it returns true for any plan, any numbers; below the heap's size at the call nothing turns.
-/
import Derived.Test.YthiplocjiamahaaShy
namespace Go.Proofs.Ythiplocjiamahaa
open Go.RowKit Go.Proofs.Shs

set_option maxHeartbeats 1000000 in
theorem sheetsAt_far (kd r c s sh n q : Int) (w : World) (h1 : 600 < n) (h2 : n ≤ 999999) :
    Calls Try.prog 5 #[.agg #[.int .i64 kd, .int .i64 r, .int .i64 c, .int .i64 s, .int .i64 sh], .int .i64 n, .int .i64 q] w fun e w' => e = .returned (.bool true) ∧ Below w.heap.size w w' := by
  go_enter Try.func5, Try.ntmps5
  go_wp2_with fail
  refine (awake_any _).mono ?_
  rintro e w1 ⟨rfl, hb⟩
  go_wp2_with fail
  go_ret
  exact ⟨rfl, bt (bl (Below.refl _ _) _) hb⟩

set_option maxHeartbeats 4000000 in
theorem sheetsAt_near (kd r c s sh n q : Int) (w : World) (h : n ≤ 600 ∨ 999999 < n) :
    Calls Try.prog 5 #[.agg #[.int .i64 kd, .int .i64 r, .int .i64 c, .int .i64 s, .int .i64 sh], .int .i64 n, .int .i64 q] w fun e w' => e = .returned (.bool true) ∧ Below w.heap.size w w' := by
  have c1 := fun W => at_any kd r c s sh n q W
  have c2 := fun W => rat_any kd r c s sh n q W
  obtain ⟨⟨⟨a0, a1, a2, a3, a4⟩, b⟩, hx⟩ : ∃ x, atV ⟨kd, r, c, s, sh⟩ n q = x := ⟨_, rfl⟩
  rw [hx] at c1 c2
  clear hx
  have hn : n ≤ 600 ∨ (600 < n ∧ ¬ n ≤ 999999) := by omega
  clear h
  cases b
  all_goals rcases hn with hn | ⟨hn, hn2⟩
  all_goals
    go_enter Try.func5, Try.ntmps5
    go_wp2_with fail
    refine (c1 _).mono ?_
    rintro e w1 ⟨rfl, hb⟩
    have hP := (Blk.new w 23 #[.int .i64 kd, .int .i64 r, .int .i64 c, .int .i64 s, .int .i64 sh]).keep hb
    have hz : w.heap.size < w1.heap.size := hP.lt
    obtain ⟨p0, p1, p2, p3, p4⟩ := hP.facts5
    have B1 := Lib.hid (bt (bl (Below.refl _ _) _) hb)
    clear hb hP
    go_wp2_with fail
    refine (c2 _).mono ?_
    rintro e w2 ⟨rfl, hb2⟩
    have hX := (Blk.new w1 37 #[.int .i64 a0, .int .i64 a1, .int .i64 a2, .int .i64 a3, .int .i64 a4]).keep hb2
    have hz2 : w1.heap.size < w2.heap.size := hX.lt
    obtain ⟨x0, x1, x2, x3, x4⟩ := hX.facts5
    have B2 := Lib.hid (bt (bl B1.out _) hb2)
    clear hb2 hX p0 p1 p2 p3 p4
    go_wp2_with fail
    refine (awake_any _).mono ?_
    rintro e w3 ⟨rfl, hb3⟩
    go_wp2_with fail
    go_ret
    exact ⟨rfl, bt (bl B2.out _) hb3⟩

theorem sheetsAt_any (kd r c s sh n q : Int) (w : World) :
    Calls Try.prog 5 #[.agg #[.int .i64 kd, .int .i64 r, .int .i64 c, .int .i64 s, .int .i64 sh], .int .i64 n, .int .i64 q] w fun e w' => e = .returned (.bool true) ∧ Below w.heap.size w w' := by
  by_cases h : 600 < n ∧ n ≤ 999999
  · exact sheetsAt_far kd r c s sh n q w h.1 h.2
  · exact sheetsAt_near kd r c s sh n q w (by omega)

end Go.Proofs.Ythiplocjiamahaa
