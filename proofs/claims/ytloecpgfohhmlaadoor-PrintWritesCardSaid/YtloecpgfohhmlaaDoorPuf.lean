/-
  gatefoldlaw29.PrintWrites returns true: for whatever pages; below the heap's size nothing turns.
-/
import Derived.Test.YtloecpgfohhmlaaDoorPue
namespace Go.Proofs.YtloecpgfohhmlaaDoor
open Go.RowKit Go.Proofs.Prn

set_option maxHeartbeats 8000000 in
set_option maxRecDepth 100000 in
theorem writes_any (A : Option Addr) (c : Nat) (ps : List Page) (m : Int) (w : World) (hA : PagesAt w A ps) (hfA : ∀ p ∈ ps, PgFit p) (h6A : ∀ p ∈ ps, P64 p) (hlA : ps.length ≤ maxLen) (hT : Tab w) (hm : w.cell? ⟨0, 0, none⟩ = some (.int .i64 m)) :
    Calls Tryd.prog 3 #[.slice A ps.length c] w fun e w' => e = .returned (.bool true) ∧ Below w.heap.size w w' := by
  have HX0 := Lib.hid (Ctx.start hT hm)
  have HP0 := Lib.hid hA
  have hL := long_any A c ps w hA hfA hlA
  have H6 := Lib.hid h6A
  clear hA h6A hT hm
  cases h : longB ps with
  | true =>
    rw [h] at hL
    have HL := Lib.hid hL
    clear h hL hfA
    go_enter Tryd.func3, Tryd.ntmps3
    go_wp2_with fail
    refine HL.out.mono ?_
    rintro e w1 ⟨rfl, hb1⟩
    have HX1 := Lib.hid (HX0.out.on hb1)
    clear hb1 HX0
    go_wp2_with fail
    refine (awake_any m _ HX1.out.len HX1.out.tab).mono ?_
    rintro e w2 ⟨rfl, hb2⟩
    have HX2 := Lib.hid (HX1.out.on hb2)
    go_wp2_with fail
    go_ret
    exact ⟨rfl, HX2.out.below⟩
  | false =>
    rw [h] at hL
    have HL := Lib.hid hL
    obtain ⟨h60, h400⟩ := longB_false h
    have HSM := Lib.hid (small_of (ps := ps) (by omega))
    clear h hL hfA
    go_enter Tryd.func3, Tryd.ntmps3
    go_wp2_with fail
    refine HL.out.mono ?_
    rintro e w1 ⟨rfl, hb1⟩
    have HX1 := Lib.hid (HX0.out.on hb1)
    have HP1 := Lib.hid (HP0.out.below hb1)
    clear hb1 HX0 HP0 HL
    go_wp2_with fail
    refine (own_any A c ps _ HP1.out (by omega) HSM.out).mono ?_
    rintro e w2 ⟨E, d, rfl, hE, hb2⟩
    have HX2 := Lib.hid (HX1.out.on hb2)
    have HP2 := Lib.hid (HP1.out.below hb2)
    have HE2 := Lib.hid hE
    clear hb2 hE HX1 HP1
    go_wp2_with fail
    refine (write_pages E d ps _ HE2.out (by omega) (by omega) H6.out HX2.out.tab).mono ?_
    rintro e w3 ⟨rfl, hb3⟩
    have HX3 := Lib.hid (HX2.out.on hb3)
    have HP3 := Lib.hid (HP2.out.below hb3)
    have HE3 := Lib.hid (HE2.out.below hb3)
    have HW := Lib.hid fun W h => rwrite_any A c ps W h (by omega) (by omega)
    clear hb3 HX2 HP2 HE2 H6
    generalize (writeP ps).1 = S at *
    generalize (writeP ps).2 = z at *
    have hself : ((bs S).toList == (bs S).toList) = true := by simp
    go_wp2_with fail
    refine (HW.out _ HP3.out).mono ?_
    rintro e w4 ⟨rfl, hb4⟩
    have HX4 := Lib.hid (HX3.out.on hb4)
    have HP4 := Lib.hid (HP3.out.below hb4)
    have HE4 := Lib.hid (HE3.out.below hb4)
    have cs := rsame_any E A d c ps ps w4 HE4.out HP4.out (by omega) HSM.out
    rw [same_self] at cs
    have HCS := Lib.hid cs
    clear hb4 HX3 HP3 HE3 HW cs
    go_wp2_with fail
    refine HCS.out.mono ?_
    rintro e w5 ⟨rfl, hb5⟩
    have HX5 := Lib.hid (HX4.out.on hb5)
    clear hb5 HX4 HCS
    go_wp2_with fail
    refine (awake_any m _ HX5.out.len HX5.out.tab).mono ?_
    rintro e w6 ⟨rfl, hb6⟩
    have HX6 := Lib.hid (HX5.out.on hb6)
    go_wp2_with fail
    go_ret
    exact ⟨rfl, HX6.out.below⟩
end Go.Proofs.YtloecpgfohhmlaaDoor
