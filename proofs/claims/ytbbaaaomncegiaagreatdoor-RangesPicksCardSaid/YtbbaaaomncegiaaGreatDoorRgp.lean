/-
  gatefoldlaw32.read, wrong: whether a text is that choice, whether it is refused there; awake: the chapter's examples hold.
-/
import Derived.Test.YtbbaaaomncegiaaGreatDoorRgo
namespace Go.Proofs.YtbbaaaomncegiaaGreatDoor
open Go.RowKit Go.Proofs.Spn Go.Proofs.Rng Go.Proofs.Prn

/-- What stays as the program goes on. -/
structure Ctx (w W : World) (m : Int) : Prop where
  below : Below w.heap.size w W
  tab : Tab W
  len : W.cell? ⟨0, 0, none⟩ = some (.int .i64 m)
theorem Ctx.on {w W W' : World} {m : Int} (h : Ctx w W m) (hb : Below W.heap.size W W') : Ctx w W' m :=
  ⟨bt h.below hb, h.tab.below hb, cell_keep h.len hb⟩
theorem Ctx.start {w : World} {m : Int} (hT : Tab w) (hm : w.cell? ⟨0, 0, none⟩ = some (.int .i64 m)) : Ctx w w m := ⟨Below.refl _ _, hT, hm⟩
theorem same_self (l : List Sp) : sameB l l = true := by unfold sameB; simp

set_option maxHeartbeats 2000000 in
theorem read_yes (s : ByteArray) (A : Option Addr) (c n : Nat) (ps : List Sp) (m : Int) (w : World) (hs : s.size ≤ 10000000) (hm : w.cell? ⟨0, 0, none⟩ = some (.int .i64 m)) (hA : Spans w A ps) (hn : n = 2 * ps.length) (hl : ps.length ≤ 100000) (hp : parseR s.data.toList = (ps, 0, 0)) :
    Calls Tryz.prog 20 #[.string s, .slice A n c] w fun e w' => e = .returned (.bool true) ∧ Below w.heap.size w w' := by
  have HA := Lib.hid hA
  have C1 := Lib.hid (parse_ok s ps m w hs hm hp)
  have hmm := Lib.hid hn
  clear hA hm hp hn
  go_enter Tryz.func20, Tryz.ntmps20
  go_wp2_with fail
  refine C1.out.mono ?_
  rintro e w1 ⟨B, d, rfl, hS1, hb1⟩
  have HS1 := Lib.hid hS1
  have HB1 := Lib.hid hb1
  clear hS1 hb1
  go_wp2_with fail
  refine (ends_any A c n ps w1 (HA.out.below HB1.out) hmm.out hl).mono ?_
  rintro e w2 ⟨E, f, rfl, hS2, hb2, _⟩
  have HS2 := Lib.hid hS2
  have HB2 := Lib.hid (bt HB1.out hb2)
  have HT2 := Lib.hid (HS1.out.below hb2)
  clear hS2 hb2
  go_wp2_with fail
  refine (same_any B E d f ps ps w2 HT2.out HS2.out (by omega)).mono ?_
  rintro e w3 ⟨rfl, hb3⟩
  have HB3 := Lib.hid (bt HB2.out hb3)
  clear hb3
  go_wp2_with fail
  go_ret
  exact ⟨by rw [same_self]; rfl, HB3.out⟩
set_option maxHeartbeats 2000000 in
theorem wrong_yes (s : ByteArray) (k : Nat) (z : Int) (m : Int) (w : World) (hs : s.size ≤ 10000000) (hm : w.cell? ⟨0, 0, none⟩ = some (.int .i64 m)) (hp : parseR s.data.toList = ([], k, 1)) (hz : z = (k : Int)) :
    Calls Tryz.prog 21 #[.string s, .int .i64 z] w fun e w' => e = .returned (.bool true) ∧ Below w.heap.size w w' := by
  subst hz
  have C1 := Lib.hid (parse_no s k m w hs hm hp)
  clear hm hp
  go_enter Tryz.func21, Tryz.ntmps21
  go_wp2_with fail
  refine C1.out.mono ?_
  rintro e w1 ⟨B, d, rfl, hb1⟩
  go_wp2_with fail
  go_ret
  exact ⟨rfl, hb1⟩

theorem ex1 : parseR [49, 45, 51, 44, 53, 44, 56, 45] = ([(1, 4), (5, 6), (8, 1000000)], 0, 0) := by decide +kernel
theorem ex2 : parseR [49, 45, 57, 44, 33, 53, 44, 33, 55, 45, 56] = ([(1, 5), (6, 7), (9, 10)], 0, 0) := by decide +kernel
theorem ex3 : parseR [51, 45, 49] = ([], 2, 1) := by decide +kernel
theorem ex4 : parseR [49, 44] = ([], 2, 1) := by decide +kernel
theorem ex5 : parseR [48, 49] = ([], 0, 1) := by decide +kernel
theorem ex6 : parseR [49, 45, 45, 50] = ([], 2, 1) := by decide +kernel
theorem ex7 : writeR [(1, 4), (5, 6), (8, 1000000)] = [49, 45, 51, 44, 53, 44, 56, 45] := by decide +kernel
theorem ex8 : writeR [(999999, 1000000)] = [57, 57, 57, 57, 57, 57] := by decide +kernel
theorem ex9 : othersS [] = [(1, 1000000)] := by decide +kernel
theorem ex10 : ofS [3, 1, 2, 9, 3, 0] = [(1, 4), (9, 10)] := by decide +kernel
theorem ex11 : mayB [(2, 1)] = false := by decide +kernel

set_option maxHeartbeats 8000000 in
set_option maxRecDepth 100000 in
theorem awake_any (m : Int) (w : World) (hT : Tab w) (hm : w.cell? ⟨0, 0, none⟩ = some (.int .i64 m)) : Calls Tryz.prog 5 #[] w fun e w' => e = .returned (.bool true) ∧ Below w.heap.size w w' := by
  have HX0 := Lib.hid (Ctx.start hT hm)
  have y1 : ((bs [49, 45, 51, 44, 53, 44, 56, 45]).toList == [49, 45, 51, 44, 53, 44, 56, 45]) = true := by rw [ByteArray.toList_eq]; rfl
  have y2 : ((bs [57, 57, 57, 57, 57, 57]).toList == [57, 57, 57, 57, 57, 57]) = true := by rw [ByteArray.toList_eq]; rfl
  clear hT hm
  go_enter Tryz.func5, Tryz.ntmps5
  go_wp2_with fail
  refine (read_yes ⟨#[49, 45, 51, 44, 53, 44, 56, 45]⟩ _ 6 6 [(1, 4), (5, 6), (8, 1000000)] m _ (by decide) (HX0.out.on (bl (Below.refl _ _) _)).len (ends_new _ 3 [(1, 4), (5, 6), (8, 1000000)]) rfl (by decide) ex1).mono ?_
  rintro e w1 ⟨rfl, hb1⟩
  have HX1 := Lib.hid ((HX0.out.on (bl (Below.refl _ _) _)).on hb1)
  clear hb1 HX0
  go_wp2_with fail
  refine (read_yes ⟨#[49, 45, 57, 44, 33, 53, 44, 33, 55, 45, 56]⟩ _ 6 6 [(1, 5), (6, 7), (9, 10)] m _ (by decide) (HX1.out.on (bl (Below.refl _ _) _)).len (ends_new _ 3 [(1, 5), (6, 7), (9, 10)]) rfl (by decide) ex2).mono ?_
  rintro e w2 ⟨rfl, hb2⟩
  have HX2 := Lib.hid ((HX1.out.on (bl (Below.refl _ _) _)).on hb2)
  clear hb2 HX1
  go_wp2_with fail
  refine (wrong_yes ⟨#[51, 45, 49]⟩ 2 2 m _ (by decide) HX2.out.len ex3 rfl).mono ?_
  rintro e w3 ⟨rfl, hb3⟩
  have HX3 := Lib.hid (HX2.out.on hb3)
  clear hb3 HX2
  go_wp2_with fail
  refine (wrong_yes ⟨#[49, 44]⟩ 2 2 m _ (by decide) HX3.out.len ex4 rfl).mono ?_
  rintro e w4 ⟨rfl, hb4⟩
  have HX4 := Lib.hid (HX3.out.on hb4)
  clear hb4 HX3
  go_wp2_with fail
  refine (wrong_yes ⟨#[48, 49]⟩ 0 0 m _ (by decide) HX4.out.len ex5 rfl).mono ?_
  rintro e w5 ⟨rfl, hb5⟩
  have HX5 := Lib.hid (HX4.out.on hb5)
  clear hb5 HX4
  go_wp2_with fail
  refine (wrong_yes ⟨#[49, 45, 45, 50]⟩ 2 2 m _ (by decide) HX5.out.len ex6 rfl).mono ?_
  rintro e w6 ⟨rfl, hb6⟩
  have HX6 := Lib.hid (HX5.out.on hb6)
  clear hb6 HX5
  go_wp2_with fail
  refine (ends_any _ 6 6 [(1, 4), (5, 6), (8, 1000000)] _ (ends_new _ 3 [(1, 4), (5, 6), (8, 1000000)]) rfl (by decide)).mono ?_
  rintro e w7 ⟨A7, c7, rfl, hS7, hb7, _⟩
  have HX7 := Lib.hid ((HX6.out.on (bl (Below.refl _ _) _)).on hb7)
  have HS7 := Lib.hid hS7
  clear hS7 hb7 HX6
  go_wp2_with fail
  refine (write_any A7 c7 [(1, 4), (5, 6), (8, 1000000)] _ HX7.out.tab HS7.out (by decide)).mono ?_
  rw [ex7]
  rintro e w8 ⟨rfl, hb8⟩
  have HX8 := Lib.hid (HX7.out.on hb8)
  clear hb8 HX7 HS7
  go_wp2_with fail
  refine (ends_any _ 2 2 [(999999, 1000000)] _ (ends_new _ 3 [(999999, 1000000)]) rfl (by decide)).mono ?_
  rintro e w9 ⟨A9, c9, rfl, hS9, hb9, _⟩
  have HX9 := Lib.hid ((HX8.out.on (bl (Below.refl _ _) _)).on hb9)
  have HS9 := Lib.hid hS9
  clear hS9 hb9 HX8
  go_wp2_with fail
  refine (write_any A9 c9 [(999999, 1000000)] _ HX9.out.tab HS9.out (by decide)).mono ?_
  rw [ex8]
  rintro e w10 ⟨rfl, hb10⟩
  have HX10 := Lib.hid (HX9.out.on hb10)
  clear hb10 HX9 HS9
  go_wp2_with fail
  refine (others_any none 0 [] _ (Spans.nil _ _) (by decide)).mono ?_
  rw [ex9]
  rintro e w11 ⟨A11, c11, rfl, hS11, hb11, _⟩
  have HX11 := Lib.hid (HX10.out.on hb11)
  have HS11 := Lib.hid hS11
  clear hS11 hb11 HX10
  go_wp2_with fail
  refine (ends_any _ 2 2 [(1, 1000000)] _ (ends_new _ 3 [(1, 1000000)]) rfl (by decide)).mono ?_
  rintro e w12 ⟨A12, c12, rfl, hS12, hb12, _⟩
  have HX12 := Lib.hid ((HX11.out.on (bl (Below.refl _ _) _)).on hb12)
  have HS12 := Lib.hid hS12
  have HS11' := Lib.hid ((HS11.out.below (bl (Below.refl _ _) _)).below hb12)
  clear hS12 hb12 HX11 HS11
  go_wp2_with fail
  refine (same_any A11 A12 c11 c12 [(1, 1000000)] [(1, 1000000)] _ HS11'.out HS12.out (by decide)).mono ?_
  rw [same_self]
  rintro e w13 ⟨rfl, hb13⟩
  have HX13 := Lib.hid (HX12.out.on hb13)
  clear hb13 HX12 HS11' HS12
  go_wp2_with fail
  refine (of_any _ 6 [3, 1, 2, 9, 3, 0] _ (RowAt.new encI_len _ 3 [3, 1, 2, 9, 3, 0]) (by decide)).mono ?_
  rw [ex10]
  rintro e w14 ⟨A14, c14, rfl, hS14, hb14, _⟩
  have HX14 := Lib.hid ((HX13.out.on (bl (Below.refl _ _) _)).on hb14)
  have HS14 := Lib.hid hS14
  clear hS14 hb14 HX13
  go_wp2_with fail
  refine (ends_any _ 4 4 [(1, 4), (9, 10)] _ (ends_new _ 3 [(1, 4), (9, 10)]) rfl (by decide)).mono ?_
  rintro e w15 ⟨A15, c15, rfl, hS15, hb15, _⟩
  have HX15 := Lib.hid ((HX14.out.on (bl (Below.refl _ _) _)).on hb15)
  have HS15 := Lib.hid hS15
  have HS14' := Lib.hid ((HS14.out.below (bl (Below.refl _ _) _)).below hb15)
  clear hS15 hb15 HX14 HS14
  go_wp2_with fail
  refine (same_any A14 A15 c14 c15 [(1, 4), (9, 10)] [(1, 4), (9, 10)] _ HS14'.out HS15.out (by decide)).mono ?_
  rw [same_self]
  rintro e w16 ⟨rfl, hb16⟩
  have HX16 := Lib.hid (HX15.out.on hb16)
  clear hb16 HX15 HS14' HS15
  go_wp2_with fail
  refine (may_any none 0 [] _ (Spans.nil _ _) (by decide)).mono ?_
  rw [show mayB [] = true from rfl]
  rintro e w17 ⟨rfl, hb17⟩
  have HX17 := Lib.hid (HX16.out.on hb17)
  clear hb17 HX16
  go_wp2_with fail
  refine (ends_any _ 2 2 [(2, 1)] _ (ends_new _ 3 [(2, 1)]) rfl (by decide)).mono ?_
  rintro e w18 ⟨A18, c18, rfl, hS18, hb18, _⟩
  have HX18 := Lib.hid ((HX17.out.on (bl (Below.refl _ _) _)).on hb18)
  have HS18 := Lib.hid hS18
  clear hS18 hb18 HX17
  go_wp2_with fail
  refine (may_any A18 c18 [(2, 1)] _ HS18.out (by decide)).mono ?_
  rw [ex11]
  rintro e w19 ⟨rfl, hb19⟩
  have HX19 := Lib.hid (HX18.out.on hb19)
  clear hb19 HX18 HS18
  go_wp2_with fail
  go_ret
  exact ⟨rfl, HX19.out.below⟩
end Go.Proofs.YtbbaaaomncegiaaGreatDoor
