/-
  gatefoldlaw29.PrintParses returns true at whatever text; below the heap's size nothing turns.
-/
import Derived.Test.YtloecpgfohhmlaaDoorPve
import Derived.Test.YtloecpgfohhmlaaDoorPtd
namespace Go.Proofs.YtloecpgfohhmlaaDoor
open Go.RowKit Go.Proofs.Prn

theorem rparse_form (s : ByteArray) (ps : List Page) (k : Nat) (z : Int) (w : World) (hs : s.size ≤ 5000) (h : parseP s.data.toList = (ps, k, z)) :
    Calls Tryd.prog 14 #[.string s] w fun e w' => ∃ A c, e = .returned (.tuple #[.slice A ps.length c, .int .i64 k, .int .i64 z]) ∧ PagesAt w' A ps ∧ Below w.heap.size w w' := by
  refine (rparse_any s w hs).mono fun e w' hg => ?_
  obtain ⟨⟨A, n, c⟩, he, hv, hp, hb⟩ := hg
  rw [h] at he hv hp
  simp only at hv hp
  subst hv
  exact ⟨A, c, he, hp, hb⟩
theorem parse_form2 (s : ByteArray) (ps : List Page) (k : Nat) (z : Int) (m : Int) (w : World) (hs : s.size ≤ 100000) (hm : w.cell? ⟨0, 0, none⟩ = some (.int .i64 m)) (h : parseP s.data.toList = (ps, k, z)) :
    Calls Tryd.prog 13 #[.string s] w fun e w' => ∃ A c, e = .returned (.tuple #[.slice A ps.length c, .int .i64 k, .int .i64 z]) ∧ PagesAt w' A ps ∧ Below w.heap.size w w' := by
  refine (parse_any s m w hs hm).mono fun e w' hg => ?_
  obtain ⟨⟨A, n, c⟩, he, hv, hp, hb⟩ := hg
  rw [h] at he hv hp
  simp only at hv hp
  subst hv
  exact ⟨A, c, he, hp, hb⟩

theorem parse_small (s : ByteArray) (hs : s.size ≤ 5000) : ∃ (ps : List Page) (k : Nat) (z : Int), parseP s.data.toList = (ps, k, z) ∧ ps.length ≤ 5000 ∧ ∀ p ∈ ps, PgSmall p := by
  rcases parse_form s.data.toList with ⟨l, h⟩ | ⟨k, _, h⟩
  · have e := congrArg List.length (write_parse h).2.2
    rw [size_list] at e
    have := pages_count l
    exact ⟨l, 0, 0, h, by omega, small_of (by omega)⟩
  · exact ⟨[], k, 1, h, Nat.zero_le _, fun p hp => by cases hp⟩

set_option maxHeartbeats 8000000 in
set_option maxRecDepth 100000 in
theorem parses_any (s : ByteArray) (m : Int) (w : World) (hT : Tab w) (hm : w.cell? ⟨0, 0, none⟩ = some (.int .i64 m)) (hs : s.size ≤ 9223372036854775807) :
    Calls Tryd.prog 4 #[.string s] w fun e w' => e = .returned (.bool true) ∧ Below w.heap.size w w' := by
  have HX0 := Lib.hid (Ctx.start hT hm)
  clear hT hm
  by_cases h1 : (5000 : Int) < (s.size : Int)
  · go_enter Tryd.func4, Tryd.ntmps4
    go_wp2_with fail
    refine (awake_any m _ HX0.out.len HX0.out.tab).mono ?_
    rintro e w1 ⟨rfl, hb1⟩
    go_wp2_with fail
    go_ret
    exact ⟨rfl, hb1⟩
  · obtain ⟨ps, k, z, hp, hl, hsm⟩ := parse_small s (by omega)
    have HP := Lib.hid hp
    have HSM := Lib.hid hsm
    clear hp hsm
    go_enter Tryd.func4, Tryd.ntmps4
    go_wp2_with fail
    refine (parse_form2 s ps k z m _ (by omega) HX0.out.len HP.out).mono ?_
    rintro e w1 ⟨A, c, rfl, hp1, hb1⟩
    have HX1 := Lib.hid (HX0.out.on hb1)
    have HP1 := Lib.hid hp1
    clear hb1 hp1 HX0
    go_wp2_with fail
    refine (rparse_form s ps k z _ (by omega) HP.out).mono ?_
    rintro e w2 ⟨B, d, rfl, hp2, hb2⟩
    have HX2 := Lib.hid (HX1.out.on hb2)
    have HQ1 := Lib.hid (HP1.out.below hb2)
    have HQ2 := Lib.hid hp2
    clear hb2 hp2 HX1 HP1
    have cs := rsame_any A B c d ps ps w2 HQ1.out HQ2.out (by omega) HSM.out
    rw [same_self] at cs
    have HCS := Lib.hid cs
    clear cs
    go_wp2_with fail
    refine HCS.out.mono ?_
    rintro e w6 ⟨rfl, hb6⟩
    have HX6 := Lib.hid (HX2.out.on hb6)
    clear HCS HX2 hb6
    go_wp2_with fail
    refine (awake_any m _ HX6.out.len HX6.out.tab).mono ?_
    rintro e w7 ⟨rfl, hb7⟩
    have HX7 := Lib.hid (HX6.out.on hb7)
    clear HX6 hb7
    go_wp2_with fail
    go_ret
    exact ⟨rfl, HX7.out.below⟩
end Go.Proofs.YtloecpgfohhmlaaDoor
