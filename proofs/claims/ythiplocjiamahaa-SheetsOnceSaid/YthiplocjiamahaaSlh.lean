/-
  gatefoldlaw33.SheetsOnce, walked: it returns true for any plan and any number; below the heap's size at the call nothing turns.
-/
import Derived.Test.YthiplocjiamahaaSlg
import Derived.Deep.RegionHeld3
namespace Go.Proofs.Ythiplocjiamahaa
open Go.RowKit Go.Proofs.Shs Go.Maps

theorem all_none (p : Plan) (n : Int) (h : mayP p = false ∨ n < 1) : allP p n = [] := by
  unfold allP
  split
  · rename_i g
    rcases h with h | h
    · rw [h] at g; cases g.1
    · have hn : n = 0 := by omega
      subst hn
      have hp := perP_pos p g.1
      have : cntN p 0 = 0 := by
        unfold cntN
        exact Nat.div_eq_of_lt (by simp; omega)
      rw [this]; simp
  · rfl

set_option maxRecDepth 100000 in
set_option maxHeartbeats 4000000 in
theorem once_far (kd r c s sh n : Int) (w : World) (h : mayP ⟨kd, r, c, s, sh⟩ = false ∨ n < 1) :
    Calls Try.prog 6 #[.agg #[.int .i64 kd, .int .i64 r, .int .i64 c, .int .i64 s, .int .i64 sh], .int .i64 n] w fun e w' => e = .returned (.bool true) ∧ Below w.heap.size w w' := by
  obtain ⟨m, hm⟩ : ∃ m, min n 600 = m := ⟨_, rfl⟩
  have ca := fun W => all_any kd r c s sh m W
  have cm := fun W => may_any kd r c s sh W
  have hL := all_none ⟨kd, r, c, s, sh⟩ m (h.imp_right fun h => by omega)
  unfold GivesAll at ca
  rw [hL] at ca
  have CA := Lib.hid ca
  clear ca hL
  have hb : mayP ⟨kd, r, c, s, sh⟩ = false ∨ mayP ⟨kd, r, c, s, sh⟩ = true ∧ m < 1 := by
    rcases h with h | h
    · exact .inl h
    · cases hh : mayP ⟨kd, r, c, s, sh⟩
      · exact .inl rfl
      · exact .inr ⟨rfl, by omega⟩
  clear h
  rcases hb with hb | ⟨hb, hm1⟩
  all_goals
    rw [hb] at cm
    clear hb
    go_enter Try.func6, Try.ntmps6
    go_wp2_with fail
    refine (CA.out _).mono ?_
    rintro e w1 ⟨A, cp, rfl, _, _, _, hb1⟩
    have HP := Lib.hid ((Blk.new w 23 #[.int .i64 kd, .int .i64 r, .int .i64 c, .int .i64 s, .int .i64 sh]).keep hb1)
    have HB := Lib.hid (bt (bl (Below.refl _ _) _) hb1)
    have hz := HP.out.lt
    obtain ⟨p0, p1, p2, p3, p4⟩ := HP.out.facts5
    clear hb1
    go_wp2_with fail
    refine (cm _).mono ?_
    rintro e w2 ⟨rfl, hb2⟩
    have HB2 := Lib.hid (bt HB.out hb2)
    clear hb2 p0 p1 p2 p3 p4 hz HP
    go_wp2_with fail
    refine (awake_any _).mono ?_
    rintro e w3 ⟨rfl, hb3⟩
    go_wp2_with fail
    go_ret
    exact ⟨rfl, bt HB2.out hb3⟩
end Go.Proofs.Ythiplocjiamahaa
