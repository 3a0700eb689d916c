/-
  ranges.Parse at whatever text; gatefoldref32.Same, gatefoldlaw32.of.
-/
import Derived.Test.YtbbaaaomncegiaaGreatDoorRgm
import Derived.Test.YtbbaaaomncegiaaGreatDoorRgg
import Derived.Test.YtbbaaaomncegiaaGreatDoorRge
namespace Go.Proofs.YtbbaaaomncegiaaGreatDoor
open Go.RowKit Go.Proofs.Spn Go.Proofs.Rng Go.Proofs.Prn

set_option maxHeartbeats 1000000 in
theorem parse_none (s : ByteArray) (w : World) (h0 : s.data.toList = []) : Calls Tryz.prog 42 #[.string s] w (ParseR s.data.toList w) := by
  have q0 : (s.toList == []) = true := by rw [ByteArray.toList_eq, h0]; rfl
  have q1 : s.toList.isEmpty = true := by rw [ByteArray.toList_eq, h0]; rfl
  have hpr : Hid (parseR s.data.toList = ([], 0, 0)) := by show _ = _; rw [h0]; rfl
  go_enter Tryz.func42, Tryz.ntmps42
  go_wp2_with fail
  refine bodyPost_ret (v := .tuple #[.slice none 0 0, .int .i64 0, .int .i64 0]) (by simp [results, Tryz.results42, go_sem]) rfl ?_
  refine ⟨none, 0, by rw [hpr.out]; rfl, by rw [hpr.out]; exact Spans.nil _ _, ?_⟩
  repeat (first | exact Below.refl _ _ | refine Below.setCell ?_ (by simp) _ | refine bl ?_ _)
theorem parse_gives (s : ByteArray) (m : Int) (w : World) (hs : s.size ≤ 10000000) (hm : w.cell? ⟨0, 0, none⟩ = some (.int .i64 m)) : Calls Tryz.prog 42 #[.string s] w (ParseR s.data.toList w) := by
  by_cases h0 : s.data.toList = []
  · exact parse_none s w h0
  · exact (callsIn_wide (n := 9)).1 (parse_in 9 s m w hs h0 hm)
theorem parse_ok (s : ByteArray) (l : List Sp) (m : Int) (w : World) (hs : s.size ≤ 10000000) (hm : w.cell? ⟨0, 0, none⟩ = some (.int .i64 m)) (h : parseR s.data.toList = (l, 0, 0)) :
    Calls Tryz.prog 42 #[.string s] w fun e w' => ∃ A c, e = .returned (.tuple #[.slice A l.length c, .int .i64 0, .int .i64 0]) ∧ Spans w' A l ∧ Below w.heap.size w w' := by
  refine (parse_gives s m w hs hm).mono ?_
  rintro e w' ⟨A, c, he, hS, hb⟩
  rw [h] at he hS
  exact ⟨A, c, he, hS, hb⟩
theorem parse_no (s : ByteArray) (k : Nat) (m : Int) (w : World) (hs : s.size ≤ 10000000) (hm : w.cell? ⟨0, 0, none⟩ = some (.int .i64 m)) (h : parseR s.data.toList = ([], k, 1)) :
    Calls Tryz.prog 42 #[.string s] w fun e w' => ∃ A c, e = .returned (.tuple #[.slice A 0 c, .int .i64 k, .int .i64 1]) ∧ Below w.heap.size w w' := by
  refine (parse_gives s m w hs hm).mono ?_
  rintro e w' ⟨A, c, he, hS, hb⟩
  rw [h] at he
  exact ⟨A, c, he, hb⟩
end Go.Proofs.YtbbaaaomncegiaaGreatDoor
