/-
  The chapter's examples hold: gatefoldlaw29.awake returns true; below the heap's size nothing turns.
-/
import Derived.Test.YtloecpgfohhmlaaDoorPsb
import Derived.Test.YtloecpgfohhmlaaDoorPns
namespace Go.Proofs.YtloecpgfohhmlaaDoor
open Go.RowKit Go.Proofs.Prn

/-- print.Parse of a text that is pages, or is none. -/
theorem parse_ok (s : ByteArray) (ps : List Page) (m : Int) (w : World) (hs : s.size ≤ 100000) (hm : w.cell? ⟨0, 0, none⟩ = some (.int .i64 m)) (h : parseP s.data.toList = (ps, 0, 0)) :
    Calls Tryd.prog 13 #[.string s] w fun e w' => ∃ A c, e = .returned (.tuple #[.slice A ps.length c, .int .i64 0, .int .i64 0]) ∧ PagesAt w' A ps ∧ Below w.heap.size w w' := by
  refine (parse_any s m w hs hm).mono fun e w' hg => ?_
  obtain ⟨⟨A, n, c⟩, he, hv, hp, hb⟩ := hg
  rw [h] at he hv hp
  simp only at hv hp
  subst hv
  exact ⟨A, c, he, hp, hb⟩
theorem parse_no (s : ByteArray) (k : Nat) (m : Int) (w : World) (hs : s.size ≤ 100000) (hm : w.cell? ⟨0, 0, none⟩ = some (.int .i64 m)) (h : parseP s.data.toList = ([], k, 1)) :
    Calls Tryd.prog 13 #[.string s] w fun e w' => ∃ A c, e = .returned (.tuple #[.slice A 0 c, .int .i64 k, .int .i64 1]) ∧ PagesAt w' A [] ∧ Below w.heap.size w w' := by
  refine (parse_any s m w hs hm).mono fun e w' hg => ?_
  obtain ⟨⟨A, n, c⟩, he, hv, hp, hb⟩ := hg
  rw [h] at he hv hp
  simp only [List.length_nil] at hv hp
  subst hv
  exact ⟨A, c, he, hp, hb⟩

set_option maxHeartbeats 1000000 in
theorem wrong_yes (s : ByteArray) (k : Nat) (m : Int) (w : World) (hs : s.size ≤ 100000) (hm : w.cell? ⟨0, 0, none⟩ = some (.int .i64 m)) (h : parseP s.data.toList = ([], k, 1)) :
    Calls Tryd.prog 15 #[.string s, .int .i64 k] w fun e w' => e = .returned (.bool true) ∧ Below w.heap.size w w' := by
  have c := parse_no s k m w hs hm h
  have HC := Lib.hid c
  clear c hm h
  go_enter Tryd.func15, Tryd.ntmps15
  go_wp2_with fail
  refine HC.out.mono ?_
  rintro e w1 ⟨A, c, rfl, _, hb⟩
  go_wp2_with fail
  go_ret
  exact ⟨rfl, hb⟩

def one : Bytes := [112, 97, 103, 101, 32, 49, 32, 49, 10, 102, 108, 111, 119, 32, 51, 32, 48, 32, 48, 32, 53, 32, 45, 49, 32, 50, 48, 32, 56, 10]
def oneP : List Page := [⟨1, 1, [], [⟨3, 0, 0, 5, -1, 20, 8⟩], []⟩]
theorem parse_one : parseP one = (oneP, 0, 0) := by decide +kernel
theorem write_one : writeP oneP = (one, 0) := by
  obtain ⟨h1, _, h2⟩ := write_parse parse_one
  unfold writeP
  rw [if_pos h1, h2]
theorem bad1 : parseP [102, 108, 111, 119, 32, 51, 32, 48, 32, 48, 32, 53, 32, 45, 49, 32, 50, 48, 32, 56, 10] = ([], 1, 1) := by decide +kernel
theorem bad2 : parseP [112, 97, 103, 101, 32, 49, 32, 49, 10, 102, 108, 111, 97, 116, 32, 49, 32, 50, 32, 51, 32, 52, 32, 53, 32, 54, 32, 55, 10, 104, 101, 97, 100, 32, 49, 32, 50, 32, 51, 32, 52, 32, 53, 32, 54, 32, 55, 10] = ([], 3, 1) := by decide +kernel
theorem bad3 : parseP [112, 97, 103, 101, 32, 49, 32, 48, 49, 10] = ([], 1, 1) := by decide +kernel
theorem bad4 : parseP [112, 97, 103, 101, 32, 49, 32, 49] = ([], 1, 1) := by decide +kernel
theorem one64 : ∀ p ∈ oneP, P64 p := by
  intro p hp
  obtain rfl := List.mem_singleton.1 hp
  refine ⟨fun n hn => ?_, fun k f hf => ?_⟩
  · simp [Page.nums] at hn
    subst hn
    exact ⟨by decide, by decide⟩
  · match k, hf with
    | 0, hf => cases hf
    | 1, hf =>
      obtain rfl := List.mem_singleton.1 hf
      intro n hn
      simp [Frag.nums] at hn
      rcases hn with rfl | rfl | rfl | rfl | rfl | rfl <;> exact ⟨by decide, by decide⟩
    | k + 2, hf => cases hf

theorem RowAt.of_blk {α : Type} {enc : α → List Value} {k g : Nat} {t : TypeId} {w : World} {l : List α} (hk : ∀ x, (enc x).length = k) (h : Blk w g t (flatL enc l).toArray) : RowAt enc k w (some ⟨g, 0, none⟩) l := fun i x hx =>
  ⟨g, 0, rfl, h.lt, fun j u hu => by
    rw [h.cell]
    have := flatL_at hk l i x hx j u hu
    rw [Nat.zero_add]
    simpa using this⟩
theorem one_at (W : World) (g h : Nat) (hF : Blk W g 39 #[.int .i64 3, .int .i64 0, .int .i64 0, .int .i64 5, .int .i64 (-1), .int .i64 20, .int .i64 8]) (hP : Blk W h 37 #[.int .i64 1, .int .i64 1, .slice none 0 0, .slice (some ⟨g, 0, none⟩) 1 1, .slice none 0 0]) :
    PagesAt W (some ⟨h, 0, none⟩) oneP := by
  refine ⟨[⟨1, 1, Sl.nil, ⟨some ⟨g, 0, none⟩, 1, 1⟩, Sl.nil⟩], rfl, RowAt.of_blk (l := [⟨1, 1, Sl.nil, ⟨some ⟨g, 0, none⟩, 1, 1⟩, Sl.nil⟩]) encR_len hP, fun i r p hr hp => ?_⟩
  match i, hr, hp with
  | 0, hr, hp =>
    simp [oneP] at hr hp
    subst hr hp
    exact ⟨rfl, rfl, ⟨rfl, RowAt.nil _ _⟩, ⟨rfl, RowAt.of_blk (l := [⟨3, 0, 0, 5, -1, 20, 8⟩]) encF_len hF⟩, ⟨rfl, RowAt.nil _ _⟩⟩
  | i + 1, hr, hp => simp at hr
theorem one_small : ∀ p ∈ oneP, PgSmall p := by
  intro p hp
  obtain rfl := List.mem_singleton.1 hp
  exact ⟨by decide, by decide, by decide⟩

set_option maxHeartbeats 8000000 in
set_option maxRecDepth 100000 in
theorem awake_any (m : Int) (w : World) (hm : w.cell? ⟨0, 0, none⟩ = some (.int .i64 m)) (hT : Tab w) : Calls Tryd.prog 8 #[] w fun e w' => e = .returned (.bool true) ∧ Below w.heap.size w w' := by
  have hw0 : 0 < w.heap.size := World.block_lt_of_cell? _ _ hm
  have HM := Lib.hid hm
  have HT := Lib.hid hT
  clear hm hT
  go_enter Tryd.func8, Tryd.ntmps8
  go_wp2_with fail
  refine gen_world (F := fun W => PagesAt W (some ⟨w.heap.size + 1, 0, none⟩) oneP ∧ Below w.heap.size w W) (G := fun W => Calls _ _ _ W _) _
    ⟨one_at _ w.heap.size _ ((Blk.new w _ _).alloc _) (by have := Blk.new (w.alloc (.cells #[.int .i64 3, .int .i64 0, .int .i64 0, .int .i64 5, .int .i64 (-1), .int .i64 20, .int .i64 8] 39)) 37 #[.int .i64 1, .int .i64 1, .slice none 0 0, .slice (some ⟨w.heap.size, 0, none⟩) 1 1, .slice none 0 0]; simpa using this), bl (bl (Below.refl _ _) _) _⟩ ?_
  rintro W ⟨hP0, hB0⟩
  have g0 : W.cell? ⟨0, 0, none⟩ = some (.int .i64 m) := (hB0.cell (p := ⟨0, 0, none⟩) hw0).trans HM.out
  have HP0 := Lib.hid hP0
  have HB0 := Lib.hid hB0
  clear hP0 hB0
  refine (parse_ok ⟨#[112, 97, 103, 101, 32, 49, 32, 49, 10, 102, 108, 111, 119, 32, 51, 32, 48, 32, 48, 32, 53, 32, 45, 49, 32, 50, 48, 32, 56, 10]⟩ oneP m W (by decide) g0 parse_one).mono ?_
  rintro e w1 ⟨A1, c1, rfl, hp1, hb1⟩
  have HP1 := Lib.hid hp1
  have HW1 := Lib.hid (HP0.out.below hb1)
  have HB1 := Lib.hid (bt HB0.out hb1)
  clear hp1 hb1 g0 HP0 HB0
  rw [show oneP.length = 1 from rfl]
  have cw := write_pages (some ⟨w.heap.size + 1, 0, none⟩) 1 oneP w1 HW1.out (by decide) (by decide) one64 (HT.out.below HB1.out)
  rw [write_one] at cw
  have HCW : Hid (Calls Tryd.prog 10 #[.slice (some ⟨w.heap.size + 1, 0, none⟩) 1 1] w1 fun e w' => e = .returned (.tuple #[.string ⟨#[112, 97, 103, 101, 32, 49, 32, 49, 10, 102, 108, 111, 119, 32, 51, 32, 48, 32, 48, 32, 53, 32, 45, 49, 32, 50, 48, 32, 56, 10]⟩, .int .i64 0]) ∧ Below w1.heap.size w1 w') := cw
  clear cw
  go_wp2_with fail
  refine HCW.out.mono ?_
  rintro e w2 ⟨rfl, hb2⟩
  have HP2 := Lib.hid (HP1.out.below hb2)
  have HW2 := Lib.hid (HW1.out.below hb2)
  have HB2 := Lib.hid (bt HB1.out hb2)
  clear hb2 HP1 HW1 HB1 HCW
  go_wp2_with fail
  refine (parse_ok ⟨#[]⟩ [] m w2 (by decide) ((HB2.out.cell (p := ⟨0, 0, none⟩) hw0).trans HM.out) rfl).mono ?_
  rintro e w3 ⟨A3, c3, rfl, _, hb3⟩
  have HP3 := Lib.hid (HP2.out.below hb3)
  have HW3 := Lib.hid (HW2.out.below hb3)
  have HB3 := Lib.hid (bt HB2.out hb3)
  clear hb3 HP2 HW2 HB2
  rw [show ([] : List Page).length = 0 from rfl]
  have cs := rsame_any A1 (some ⟨w.heap.size + 1, 0, none⟩) c1 1 oneP oneP w3 HP3.out HW3.out (by decide) one_small
  rw [same_self, show oneP.length = 1 from rfl] at cs
  have HCS := Lib.hid cs
  clear cs
  go_wp2_with fail
  refine HCS.out.mono ?_
  rintro e w4 ⟨rfl, hb4⟩
  have HB4 := Lib.hid (bt HB3.out hb4)
  clear hb4 HP3 HW3 HB3 HCS
  go_wp2_with fail
  refine (wrong_yes ⟨#[102, 108, 111, 119, 32, 51, 32, 48, 32, 48, 32, 53, 32, 45, 49, 32, 50, 48, 32, 56, 10]⟩ 1 m w4 (by decide) ((HB4.out.cell (p := ⟨0, 0, none⟩) hw0).trans HM.out) bad1).mono ?_
  rintro e w5 ⟨rfl, hb5⟩
  have HB5 := Lib.hid (bt HB4.out hb5)
  clear hb5 HB4
  go_wp2_with fail
  refine (wrong_yes ⟨#[112, 97, 103, 101, 32, 49, 32, 49, 10, 102, 108, 111, 97, 116, 32, 49, 32, 50, 32, 51, 32, 52, 32, 53, 32, 54, 32, 55, 10, 104, 101, 97, 100, 32, 49, 32, 50, 32, 51, 32, 52, 32, 53, 32, 54, 32, 55, 10]⟩ 3 m w5 (by decide) ((HB5.out.cell (p := ⟨0, 0, none⟩) hw0).trans HM.out) bad2).mono ?_
  rintro e w6 ⟨rfl, hb6⟩
  have HB6 := Lib.hid (bt HB5.out hb6)
  clear hb6 HB5
  go_wp2_with fail
  refine (wrong_yes ⟨#[112, 97, 103, 101, 32, 49, 32, 48, 49, 10]⟩ 1 m w6 (by decide) ((HB6.out.cell (p := ⟨0, 0, none⟩) hw0).trans HM.out) bad3).mono ?_
  rintro e w7 ⟨rfl, hb7⟩
  have HB7 := Lib.hid (bt HB6.out hb7)
  clear hb7 HB6
  go_wp2_with fail
  refine (wrong_yes ⟨#[112, 97, 103, 101, 32, 49, 32, 49]⟩ 1 m w7 (by decide) ((HB7.out.cell (p := ⟨0, 0, none⟩) hw0).trans HM.out) bad4).mono ?_
  rintro e w8 ⟨rfl, hb8⟩
  have HB8 := Lib.hid (bt HB7.out hb8)
  clear hb8 HB7
  go_wp2_with fail
  go_ret
  exact ⟨rfl, HB8.out⟩
end Go.Proofs.YtloecpgfohhmlaaDoor
