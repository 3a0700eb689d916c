/-
  gatefoldlaw33.SheetsAll, SheetsAt, walked: they return true for any plan, any numbers; below the heap's size at the call nothing turns.
-/
import Derived.Test.YthiplocjiamahaaShy
import Derived.Deep.RegionHeld3
namespace Go.Proofs.Ythiplocjiamahaa
open Go.RowKit Go.Proofs.Shs

theorem keep5 {w0 W W' : World} {g : Nat} {a0 a1 a2 a3 a4 : Value} (hq : Below W.heap.size W W')
    (h : W.cell? ⟨g, 0, none⟩ = some a0 ∧ W.cell? ⟨g, 1, none⟩ = some a1 ∧ W.cell? ⟨g, 2, none⟩ = some a2 ∧ W.cell? ⟨g, 3, none⟩ = some a3 ∧ W.cell? ⟨g, 4, none⟩ = some a4 ∧ Hid (Below w0.heap.size w0 W)) :
    W'.cell? ⟨g, 0, none⟩ = some a0 ∧ W'.cell? ⟨g, 1, none⟩ = some a1 ∧ W'.cell? ⟨g, 2, none⟩ = some a2 ∧ W'.cell? ⟨g, 3, none⟩ = some a3 ∧ W'.cell? ⟨g, 4, none⟩ = some a4 ∧ Hid (Below w0.heap.size w0 W') := by
  obtain ⟨h0, h1, h2, h3, h4, h5⟩ := h
  have k : ∀ {a : Addr} {v : Value}, W.cell? a = some v → W'.cell? a = some v := fun h => (hq.cell (World.block_lt_of_cell? _ _ h)).trans h
  exact ⟨k h0, k h1, k h2, k h3, k h4, bt h5.out hq⟩

set_option maxHeartbeats 1000000 in
theorem sheetsAll_far (kd r c s sh n : Int) (w : World) (h1 : 600 < n) (h2 : n ≤ 999999) :
    Calls Try.prog 3 #[.agg #[.int .i64 kd, .int .i64 r, .int .i64 c, .int .i64 s, .int .i64 sh], .int .i64 n] w fun e w' => e = .returned (.bool true) ∧ Below w.heap.size w w' := by
  go_enter Try.func3, Try.ntmps3
  go_wp2_with fail
  refine (awake_any _).mono ?_
  rintro e w1 ⟨rfl, hb⟩
  go_wp2_with fail
  go_ret
  exact ⟨rfl, bt (bl (Below.refl _ _) _) hb⟩

set_option linter.unusedSimpArgs false in
set_option maxRecDepth 100000 in
set_option maxHeartbeats 8000000 in
theorem sheetsAll_near (kd r c s sh n : Int) (w : World) (h : n ≤ 600 ∨ 999999 < n) :
    Calls Try.prog 3 #[.agg #[.int .i64 kd, .int .i64 r, .int .i64 c, .int .i64 s, .int .i64 sh], .int .i64 n] w fun e w' => e = .returned (.bool true) ∧ Below w.heap.size w w' := by
  have c1 := fun W => may_any kd r c s sh W
  have c2 := fun W => rmay_any kd r c s sh W
  have c3 := fun W => count_any kd r c s sh n W
  have c4 := fun W => rcount_any kd r c s sh n W
  have c5 := fun W => all_any kd r c s sh n W
  have c6 := fun W => rall_any kd r c s sh n W
  have c8 := fun W => awake_any W
  unfold GivesAll at c5 c6
  have hle : (allP ⟨kd, r, c, s, sh⟩ n).length ≤ 9223372036854775807 := by have := len_all_le ⟨kd, r, c, s, sh⟩ n; omega
  generalize allP ⟨kd, r, c, s, sh⟩ n = L at c5 c6 hle
  have c7 := fun (A B : Option Addr) (c d : Nat) (W : World) (hA : RowAt encSl 5 W A L) (hB : RowAt encSl 5 W B L) => same_any A B c d L L W hA hB hle
  rw [show sameSl L L = true by unfold sameSl; simp] at c7
  generalize cntP ⟨kd, r, c, s, sh⟩ n = K at c3 c4
  generalize mayP ⟨kd, r, c, s, sh⟩ = b at c1 c2
  have C5 := Lib.hid c5
  have C6 := Lib.hid c6
  have C7 := Lib.hid c7
  clear c5 c6 c7
  have hn : n ≤ 600 ∨ (600 < n ∧ ¬ n ≤ 999999) := by omega
  clear h
  cases b
  all_goals rcases hn with hn | ⟨hn, hn2⟩
  all_goals
    go_enter Try.func3, Try.ntmps3
    go_wp2_with fail
    refine gen_world (F := fun W => Blk W w.heap.size 23 #[.int .i64 kd, .int .i64 r, .int .i64 c, .int .i64 s, .int .i64 sh] ∧ Below w.heap.size w W) _ ⟨Blk.new w _ _, bl (Below.refl _ _) _⟩ ?_
    rintro W ⟨hP, hB⟩
    have HB := Lib.hid hB
    obtain ⟨p0, p1, p2, p3, p4⟩ := hP.facts5
    have hW0 : Hid (Below W.heap.size W W.drew) := (Below.refl _ _).drew
    clear hP hB
    go_region_held3 (fun w' => w'.cell? ⟨w.heap.size, 0, none⟩ = some (.int .i64 kd) ∧ w'.cell? ⟨w.heap.size, 1, none⟩ = some (.int .i64 r) ∧ w'.cell? ⟨w.heap.size, 2, none⟩ = some (.int .i64 c) ∧ w'.cell? ⟨w.heap.size, 3, none⟩ = some (.int .i64 s) ∧ w'.cell? ⟨w.heap.size, 4, none⟩ = some (.int .i64 sh) ∧ Hid (Below W.heap.size W w'))
      (first
        | (exact ⟨p0, p1, p2, p3, p4, hW0⟩)
        | (go_split_ands; exact keep5 hq ⟨by assumption, by assumption, by assumption, by assumption, by assumption, by assumption⟩))
      (first
        | (go_at_call 9; refine (c1 _).mono ?_; rintro e w' ⟨rfl, hq⟩)
        | (go_at_call 10; refine (c2 _).mono ?_; rintro e w' ⟨rfl, hq⟩)
        | (go_at_call 11; refine (c3 _).mono ?_; rintro e w' ⟨rfl, hq⟩)
        | (go_at_call 12; refine (c4 _).mono ?_; rintro e w' ⟨rfl, hq⟩)
        | (go_at_call 14; refine (C5.out _).mono ?_; rintro e w5 ⟨A5, cp5, rfl, _, _, S5, hq⟩)
        | (go_at_call 15; refine (C6.out _).mono ?_; rintro e w6 ⟨A6, cp6, rfl, _, _, S6, hq⟩; have S7 := S5.below hq)
        | (go_at_call 13; refine (C7.out A5 A6 _ _ _ S7 S6).mono ?_; rintro e w' ⟨rfl, hq⟩)
        | (go_at_call 8; refine (c8 _).mono ?_; rintro e w' ⟨rfl, hq⟩))
    all_goals (go_wp2_with fail)
    all_goals go_ret
    all_goals (try go_split_ands)
    all_goals exact ⟨rfl, bt HB.out (by first | exact Hid.out (by assumption) | exact bt (Hid.out (by assumption)) hq)⟩

theorem sheetsAll_any (kd r c s sh n : Int) (w : World) :
    Calls Try.prog 3 #[.agg #[.int .i64 kd, .int .i64 r, .int .i64 c, .int .i64 s, .int .i64 sh], .int .i64 n] w fun e w' => e = .returned (.bool true) ∧ Below w.heap.size w w' := by
  by_cases h : 600 < n ∧ n ≤ 999999
  · exact sheetsAll_far kd r c s sh n w h.1 h.2
  · exact sheetsAll_near kd r c s sh n w (by omega)

end Go.Proofs.Ythiplocjiamahaa
