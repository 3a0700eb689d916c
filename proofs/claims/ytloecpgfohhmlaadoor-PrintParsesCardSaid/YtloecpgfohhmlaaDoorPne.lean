/-
  print.of, at every line: what the line tells; below the heap's size nothing turns.
-/
import Derived.Test.YtloecpgfohhmlaaDoorPnd
import Derived.Deep.QuietTactic
import Derived.BigQuiet
namespace Go.Proofs.YtloecpgfohhmlaaDoor
open Go.RowKit Go.Proofs.Prn

theorem tellV_part (f : Frag) (z : Int) (h : 0 ≤ z) : tellV (.part f z.toNat) = .iface 85 (.agg #[.int .i64 f.node, .int .i64 f.atom, .int .i64 f.frm, .int .i64 f.x, .int .i64 f.y, .int .i64 f.w, .int .i64 f.h, .int .i64 z]) := by
  have e : ((z.toNat : Nat) : Int) = z := Int.toNat_of_nonneg h
  show Value.iface _ (.agg #[.int .i64 f.node, .int .i64 f.atom, .int .i64 f.frm, .int .i64 f.x, .int .i64 f.y, .int .i64 f.w, .int .i64 f.h, .int .i64 ((z.toNat : Nat) : Int)]) = _
  rw [e]
theorem index_any (g : Nat) (x : ByteArray) (w : World) (h : Blk w g 48 #[.string ⟨#[104, 101, 97, 100]⟩, .string ⟨#[102, 108, 111, 119]⟩, .string ⟨#[102, 108, 111, 97, 116]⟩] ∨ Blk w g 9 #[.string ⟨#[104, 101, 97, 100]⟩, .string ⟨#[102, 108, 111, 119]⟩, .string ⟨#[102, 108, 111, 97, 116]⟩]) :
    Calls Tryd.prog 37 #[.slice (some ⟨g, 0, none⟩) 3 3, .string x] w fun e w' => e = .returned (.int .i64 (kindOf x.data.toList)) ∧ w' = w := by
  have := Tryd.slices_Index_string g 0 3 3 [bs wHead, bs wFlow, bs wFloat] x w (by decide) (by decide) (fun j hj => by
    have hj' : j < 3 := hj
    rcases h with h | h
    all_goals
      rw [h.cell]
      match j, hj' with
      | 0, _ => rfl
      | 1, _ => rfl
      | 2, _ => rfl)
  rw [show ([bs wHead, bs wFlow, bs wFloat].take 3) = [bs wHead, bs wFlow, bs wFloat] from rfl, idx_kind] at this
  exact this

set_option maxHeartbeats 4000000 in
set_option maxRecDepth 100000 in
theorem of_any (s : ByteArray) (m : Int) (w : World) (hs : s.size ≤ 100000) (hm : w.cell? ⟨0, 0, none⟩ = some (.int .i64 m)) :
    Calls Tryd.prog 26 #[.string s] w fun e w' => e = .returned (tellV (tellP s.data.toList)) ∧ Below w.heap.size w w' := by
  obtain ⟨x, xs, hf, hn, hy, cs⟩ := split_at s m w hs hm
  have HT : Hid (tellP s.data.toList = if x.data.toList = wPage then pageOf (rowP (strs xs)) else if kindOf x.data.toList < 0 then .wrong else partOf (kindOf x.data.toList).toNat (rowP (strs xs))) := by
    show _ = _
    unfold tellP
    rw [← hf]
    rfl
  have HC := Lib.hid cs
  have HY := Lib.hid hy
  clear hf cs hm hs hy
  go_enter Tryd.func26, Tryd.ntmps26
  go_wp2_with fail
  refine HC.out.mono ?_
  rintro e w1 ⟨rfl, hr1, hb1⟩
  have HB1 := Lib.hid hb1
  have HR1 := Lib.hid hr1
  clear hb1 hr1 HC
  go_wp2_with fail
  refine (words_any _).mono ?_
  rintro e w2 ⟨rfl, hb2⟩
  have HB2 := Lib.hid (bt HB1.out hb2)
  have HR2 := Lib.hid (HR1.out.below hb2)
  clear hb2 HR1 HB1
  go_wp2_with fail
  refine gen_world (F := fun W => Blk W w2.heap.size 48 #[.string ⟨#[104, 101, 97, 100]⟩, .string ⟨#[102, 108, 111, 119]⟩, .string ⟨#[102, 108, 111, 97, 116]⟩] ∧ RowAt encS 1 W (some ⟨w.heap.size, 0, none⟩) (x :: xs) ∧ Below w.heap.size w W) _ ⟨Blk.new w2 _ _, HR2.out.below (bl (Below.refl _ _) _), bl HB2.out _⟩ ?_
  rintro W ⟨hP, hr, hB⟩
  have HP := Lib.hid hP
  have HR := Lib.hid hr
  have HB := Lib.hid hB
  have ci := fun n => index_any w2.heap.size x (W.drewN n) (.inl hP)
  have CI := Lib.hid ci
  clear HB2 HR2 hP hr hB ci
  generalize w2.heap.size = g at HP CI ⊢
  obtain ⟨b0, off0, e0, c0⟩ := HR.out.cell1 (i := 0) rfl rfl
  injection e0 with e0
  injection e0 with e1 e2
  subst e1 e2
  simp only [Nat.zero_add] at c0
  have p0 : (0 : Int) < (xs.length : Int) + 1 := by omega
  have p1 : 0 < xs.length + 1 := by omega
  go_quiet ((go_at_call 37; exact Calls.quiet_of_same (CI.out _)))
  refine gen_world (F := fun W' => RowAt encS 1 W' (some ⟨w.heap.size, 0, none⟩) (x :: xs) ∧ Below w.heap.size w W') (G := fun W' => Exit.then _ _ _ _ W') (W.drewN nq) ⟨HR.out, bdn HB.out _⟩ ?_
  rintro W3 ⟨hr3, hb3⟩
  have HR3 := Lib.hid hr3
  have HB3 := Lib.hid hb3
  clear hr3 hb3 HR HB HP CI c0
  obtain ⟨b0, off0, e0, c0⟩ := HR3.out.cell1 (i := 0) rfl rfl
  injection e0 with e0
  injection e0 with e1 e2
  subst e1 e2
  simp only [Nat.zero_add] at c0
  rcases xs with _ | ⟨y, ys⟩
  ·
    by_cases hpg : x.data.toList = wPage
    · have b1 : (x.toList == [112, 97, 103, 101]) = true := by rw [ByteArray.toList_eq, hpg]; rfl
      have HPG := Lib.hid hpg
      clear hpg
      go_wp2_with fail
      refine (row_any (some ⟨w.heap.size, 0, none⟩) 0 2 _ _ (RowAt.nil _ _) (fun z hz => by have := HY.out z (List.mem_cons_of_mem _ hz); omega) (by simp at hn ⊢; try omega)).mono ?_
      intro e w5 hg
      rcases rowGives_case hg with ⟨v, rfl, hb5, HW⟩ | ⟨A5, c5, l, ho, hl, rfl, hA5, hc5, hb5⟩
      · have HE : Hid (tellP s.data.toList = .wrong) := by
          show _ = _
          rw [HT.out]; rw [if_pos HPG.out]; exact pageOf_wrong HW.out
        have HB5 := Lib.hid (bt HB3.out hb5)
        clear hb5 hg
        go_wp2_with fail
        go_ret
        exact ⟨ret_val (by rw [HE.out]; rfl), HB5.out⟩
      · obtain ⟨y0, y1, rfl⟩ : ∃ y0 y1, l = [y0, y1] := by
          match l, hl with
          | [y0, y1], _ => exact ⟨y0, y1, rfl⟩
        have HE : Hid (tellP s.data.toList = .page y0 y1) := by
          show _ = _
          rw [HT.out]; rw [if_pos HPG.out, ho]; rfl
        obtain ⟨b5, o5, rfl, k0⟩ := hA5.cell1 (i := 0) rfl rfl
        obtain ⟨b51, o51, e51, k1⟩ := hA5.cell1 (i := 1) rfl rfl
        cases e51
        simp only [Nat.add_zero] at k0
        have HB5 := Lib.hid (bt HB3.out hb5)
        clear hb5 hg hA5 ho hl
        go_wp2_with fail
        go_quiet (fail)
        go_wp2_with fail
        go_ret
        exact ⟨ret_val (by rw [HE.out]; rfl), bdn HB5.out _⟩
    · have b1 : (x.toList == [112, 97, 103, 101]) = false := by rw [ByteArray.toList_eq]; show (x.data.toList == wPage) = false; simpa using hpg
      have HPG := Lib.hid hpg
      clear hpg
      by_cases hk : kindOf x.data.toList < 0
      · have HE : Hid (tellP s.data.toList = .wrong) := by
          show _ = _
          rw [HT.out, if_neg HPG.out, if_pos hk]
        go_wp2_with fail
        go_ret
        exact ⟨ret_val (by rw [HE.out]; rfl), HB3.out⟩
      · have hk' : 0 ≤ kindOf x.data.toList := by omega
        have HK := Lib.hid hk
        clear hk
        go_wp2_with fail
        refine (row_any (some ⟨w.heap.size, 0, none⟩) 0 7 _ _ (RowAt.nil _ _) (fun z hz => by have := HY.out z (List.mem_cons_of_mem _ hz); omega) (by simp at hn ⊢; try omega)).mono ?_
        intro e w5 hg
        rcases rowGives_case hg with ⟨v, rfl, hb5, HW⟩ | ⟨A5, c5, l, ho, hl, rfl, hA5, hc5, hb5⟩
        · have HE : Hid (tellP s.data.toList = .wrong) := by
            show _ = _
            rw [HT.out]; rw [if_neg HPG.out, if_neg (by have := HK.out; omega)]; exact partOf_wrong HW.out
          have HB5 := Lib.hid (bt HB3.out hb5)
          clear hb5 hg
          go_wp2_with fail
          go_ret
          exact ⟨ret_val (by rw [HE.out]; rfl), HB5.out⟩
        · obtain ⟨y0, y1, y2, y3, y4, y5, y6, rfl⟩ : ∃ y0 y1 y2 y3 y4 y5 y6, l = [y0, y1, y2, y3, y4, y5, y6] := by
            match l, hl with
            | [y0, y1, y2, y3, y4, y5, y6], _ => exact ⟨y0, y1, y2, y3, y4, y5, y6, rfl⟩
          have HE : Hid (tellP s.data.toList = .part ⟨y0, y1, y2, y3, y4, y5, y6⟩ (kindOf x.data.toList).toNat) := by
            show _ = _
            rw [HT.out]; rw [if_neg HPG.out, if_neg (by have := HK.out; omega), ho]; rfl
          obtain ⟨b5, o5, rfl, k0⟩ := hA5.cell1 (i := 0) rfl rfl
          obtain ⟨b51, o51, e51, k1⟩ := hA5.cell1 (i := 1) rfl rfl
          cases e51
          obtain ⟨b52, o52, e52, k2⟩ := hA5.cell1 (i := 2) rfl rfl
          cases e52
          obtain ⟨b53, o53, e53, k3⟩ := hA5.cell1 (i := 3) rfl rfl
          cases e53
          obtain ⟨b54, o54, e54, k4⟩ := hA5.cell1 (i := 4) rfl rfl
          cases e54
          obtain ⟨b55, o55, e55, k5⟩ := hA5.cell1 (i := 5) rfl rfl
          cases e55
          obtain ⟨b56, o56, e56, k6⟩ := hA5.cell1 (i := 6) rfl rfl
          cases e56
          simp only [Nat.add_zero] at k0
          have HB5 := Lib.hid (bt HB3.out hb5)
          clear hb5 hg hA5 ho hl
          go_wp2_with fail
          go_quiet (fail)
          go_wp2_with fail
          go_ret
          exact ⟨ret_val (by rw [HE.out, tellV_part _ _ hk']; rfl), bdn HB5.out _⟩
  ·
    by_cases hpg : x.data.toList = wPage
    · have b1 : (x.toList == [112, 97, 103, 101]) = true := by rw [ByteArray.toList_eq, hpg]; rfl
      have HPG := Lib.hid hpg
      clear hpg
      go_wp2_with fail
      refine (row_any (some ⟨w.heap.size, 0 + 1, none⟩) (ys.length + 1) 2 _ _ (HR3.out.shift) (fun z hz => by have := HY.out z (List.mem_cons_of_mem _ hz); omega) (by simp at hn ⊢; try omega)).mono ?_
      intro e w5 hg
      rcases rowGives_case hg with ⟨v, rfl, hb5, HW⟩ | ⟨A5, c5, l, ho, hl, rfl, hA5, hc5, hb5⟩
      · have HE : Hid (tellP s.data.toList = .wrong) := by
          show _ = _
          rw [HT.out]; rw [if_pos HPG.out]; exact pageOf_wrong HW.out
        have HB5 := Lib.hid (bt HB3.out hb5)
        clear hb5 hg
        go_wp2_with fail
        go_ret
        exact ⟨ret_val (by rw [HE.out]; rfl), HB5.out⟩
      · obtain ⟨y0, y1, rfl⟩ : ∃ y0 y1, l = [y0, y1] := by
          match l, hl with
          | [y0, y1], _ => exact ⟨y0, y1, rfl⟩
        have HE : Hid (tellP s.data.toList = .page y0 y1) := by
          show _ = _
          rw [HT.out]; rw [if_pos HPG.out, ho]; rfl
        obtain ⟨b5, o5, rfl, k0⟩ := hA5.cell1 (i := 0) rfl rfl
        obtain ⟨b51, o51, e51, k1⟩ := hA5.cell1 (i := 1) rfl rfl
        cases e51
        simp only [Nat.add_zero] at k0
        have HB5 := Lib.hid (bt HB3.out hb5)
        clear hb5 hg hA5 ho hl
        go_wp2_with fail
        go_quiet (fail)
        go_wp2_with fail
        go_ret
        exact ⟨ret_val (by rw [HE.out]; rfl), bdn HB5.out _⟩
    · have b1 : (x.toList == [112, 97, 103, 101]) = false := by rw [ByteArray.toList_eq]; show (x.data.toList == wPage) = false; simpa using hpg
      have HPG := Lib.hid hpg
      clear hpg
      by_cases hk : kindOf x.data.toList < 0
      · have HE : Hid (tellP s.data.toList = .wrong) := by
          show _ = _
          rw [HT.out, if_neg HPG.out, if_pos hk]
        go_wp2_with fail
        go_ret
        exact ⟨ret_val (by rw [HE.out]; rfl), HB3.out⟩
      · have hk' : 0 ≤ kindOf x.data.toList := by omega
        have HK := Lib.hid hk
        clear hk
        go_wp2_with fail
        refine (row_any (some ⟨w.heap.size, 0 + 1, none⟩) (ys.length + 1) 7 _ _ (HR3.out.shift) (fun z hz => by have := HY.out z (List.mem_cons_of_mem _ hz); omega) (by simp at hn ⊢; try omega)).mono ?_
        intro e w5 hg
        rcases rowGives_case hg with ⟨v, rfl, hb5, HW⟩ | ⟨A5, c5, l, ho, hl, rfl, hA5, hc5, hb5⟩
        · have HE : Hid (tellP s.data.toList = .wrong) := by
            show _ = _
            rw [HT.out]; rw [if_neg HPG.out, if_neg (by have := HK.out; omega)]; exact partOf_wrong HW.out
          have HB5 := Lib.hid (bt HB3.out hb5)
          clear hb5 hg
          go_wp2_with fail
          go_ret
          exact ⟨ret_val (by rw [HE.out]; rfl), HB5.out⟩
        · obtain ⟨y0, y1, y2, y3, y4, y5, y6, rfl⟩ : ∃ y0 y1 y2 y3 y4 y5 y6, l = [y0, y1, y2, y3, y4, y5, y6] := by
            match l, hl with
            | [y0, y1, y2, y3, y4, y5, y6], _ => exact ⟨y0, y1, y2, y3, y4, y5, y6, rfl⟩
          have HE : Hid (tellP s.data.toList = .part ⟨y0, y1, y2, y3, y4, y5, y6⟩ (kindOf x.data.toList).toNat) := by
            show _ = _
            rw [HT.out]; rw [if_neg HPG.out, if_neg (by have := HK.out; omega), ho]; rfl
          obtain ⟨b5, o5, rfl, k0⟩ := hA5.cell1 (i := 0) rfl rfl
          obtain ⟨b51, o51, e51, k1⟩ := hA5.cell1 (i := 1) rfl rfl
          cases e51
          obtain ⟨b52, o52, e52, k2⟩ := hA5.cell1 (i := 2) rfl rfl
          cases e52
          obtain ⟨b53, o53, e53, k3⟩ := hA5.cell1 (i := 3) rfl rfl
          cases e53
          obtain ⟨b54, o54, e54, k4⟩ := hA5.cell1 (i := 4) rfl rfl
          cases e54
          obtain ⟨b55, o55, e55, k5⟩ := hA5.cell1 (i := 5) rfl rfl
          cases e55
          obtain ⟨b56, o56, e56, k6⟩ := hA5.cell1 (i := 6) rfl rfl
          cases e56
          simp only [Nat.add_zero] at k0
          have HB5 := Lib.hid (bt HB3.out hb5)
          clear hb5 hg hA5 ho hl
          go_wp2_with fail
          go_quiet (fail)
          go_wp2_with fail
          go_ret
          exact ⟨ret_val (by rw [HE.out, tellV_part _ _ hk']; rfl), bdn HB5.out _⟩
end Go.Proofs.YtloecpgfohhmlaaDoor
