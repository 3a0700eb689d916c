/-
  gatefoldref29.Parse at every text of at most 5000 bytes: as print.Parse.
-/
import Derived.Test.YtloecpgfohhmlaaDoorPvg
import Derived.Test.YtloecpgfohhmlaaDoorPop
import Derived.Deep.RegionHeld3
import Derived.Deep.RegionLaw
namespace Go.Proofs.YtloecpgfohhmlaaDoor
open Go.RowKit Go.Proofs.Prn

theorem ys_nil {ys : List ByteArray} (h : ys.length = 0) : ys = [] := List.eq_nil_of_length_eq_zero h

set_option maxHeartbeats 8000000 in
set_option maxRecDepth 100000 in
theorem rparse_any (s : ByteArray) (w : World) (hs : s.size ≤ 5000) : Calls Tryd.prog 14 #[.string s] w (ParseGives s.data.toList w) := by
  go_enter Tryd.func14, Tryd.ntmps14
  go_wp2_with fail
  go_loopw [5, 6, 7, 8, 9] (fun o a f l i wr => ∃ (k n frm last : Nat) (v : Sl) (ps : List Page), i = .int .i64 k ∧ a = .int .i64 n ∧ f = .int .i64 frm ∧ l = .int .i64 last ∧ o = v.v ∧ k ≤ s.size ∧ frm ≤ k ∧ n ≤ k ∧
    Hid (Inv s.data.toList ps last n frm k) ∧ Hid (Rp wr w.heap.size v ps last) ∧ Hid (Below w.heap.size w wr)) (fun _ _ _ _ i _ => s.size - (intOf i).toNat)
  case atStart => exact ⟨0, 0, 0, 0, Sl.nil, [], rfl, rfl, rfl, rfl, rfl, Nat.zero_le _, Nat.le_refl _, Nat.le_refl _, Inv.start _, Rp.nil _ _, Below.refl _ _⟩
  case round =>
    obtain ⟨k, n, frm, last, v, ps, rfl, rfl, rfl, rfl, rfl, hk, hfk, hnk, HI, HR, HB⟩ := hrel
    by_cases hlt : k < s.size
    · have hlt' : (k : Int) < (s.size : Int) := by omega
      have ik0 : (0 : Int) ≤ (k : Int) := by omega
      have hkl : k < s.data.toList.length := by rw [size_list]; exact hlt
      have hgl : s.data.toList[k]? = some (s[k]'hlt) := by rw [List.getElem?_eq_getElem hkl, get_list s k hlt]
      by_cases hd : s[k]'hlt = 10
      · have hd' : (((s[k]'hlt).toNat : Int) != 10) = false := by rw [hd]; rfl
        have hd2 : (((s[k]'hlt).toNat : Int) == 10) = true := by rw [hd]; rfl
        have hcr : s.data.toList[k]? = some 10 := by rw [hgl, hd]
        have HC := Lib.hid hcr
        have hes : (s.extract frm k).size ≤ 10000 := by rw [ByteArray.size_extract]; omega
        have HEX := Lib.hid hes
        clear hgl hcr hkl hes
        go_wp2_with fail
        refine (fields_line (s.extract frm k) wr HEX.out).mono ?_
        rintro e w1 ⟨g, c, x, ys, rfl, hst, hrow, hcap, hb1, hys, hyl⟩
        have HT := Lib.hid (tell_fields hst)
        have HB1 := Lib.hid (bt HB.out hb1)
        have HR1 := Lib.hid (HR.out.below hb1)
        have HX1 := Lib.hid hrow
        have HY := Lib.hid hys
        obtain ⟨b0, off0, e0, c0⟩ := hrow.cell1 (i := 0) rfl rfl
        injection e0 with e0
        injection e0 with e1 e2
        subst e1 e2
        simp only [Nat.zero_add] at c0
        have p0 : (0 : Int) < (ys.length : Int) + 1 := by omega
        have p1 : 0 < ys.length + 1 := by omega
        clear hst hrow hb1 hys HB HR
        by_cases hP : x.data.toList = wPage
        · have qP : (x.toList == [112, 97, 103, 101]) = true := word_yes hP
          rcases num_form ys 2 with ⟨l, hl1, hl2⟩ | hno
          · obtain ⟨a, b, rfl⟩ : ∃ a b, l = [a, b] := by
              match l, hl2 with
              | [a, b], _ => exact ⟨a, b, rfl⟩
            have hN0 : Inv s.data.toList (ps ++ [(⟨a, b, [], [], []⟩ : Page)]) 0 (n + 1) (k + 1) (k + 1) := HI.out.taken (st := (ps ++ [(⟨a, b, [], [], []⟩ : Page)], 0)) HC.out (by rw [← mid_list, HT.out, if_pos hP, hl1]; rfl)
            have HN := Lib.hid hN0
            clear hN0
            have hc1 : ¬ c = 1 := by
              have h2 : ys.length = 2 := by
                have := rowP_len _ _ hl1
                simpa [strs] using this.symm
              omega
            have NUM := Lib.hid (numbers_ok hl1 hl2)
            have HPL := HI.out.small.1
            clear hl1 HC HT
            go_wp2_with fail
            refine (NUM.out (some ⟨g, 1, none⟩) _ w1 HX1.out.shift HY.out hyl).mono ?_
            rintro e w2 ⟨B, d, rfl, hB, hb2⟩
            have HB2 := Lib.hid (bt HB1.out hb2)
            have HR2 := Lib.hid (HR1.out.below hb2)
            obtain ⟨bb, oo, rfl, a0⟩ := hB.cell1 (i := 0) rfl rfl
            obtain ⟨bb', oo', e', a1⟩ := hB.cell1 (i := 1) rfl rfl
            injection e' with e'
            injection e' with e1 e2
            subst e1 e2
            simp only [Nat.add_zero] at a0
            obtain ⟨rs, hown, hrl, hcur⟩ := HR2.out
            rw [← hrl] at hown
            have HO2 := Lib.hid hown
            have HCUR := Lib.hid hcur
            have hrn : rs.length ≤ 5000 := by omega
            obtain ⟨i0, hi, hz0, hz1, hz2⟩ := info_parts Tryd.infoPage
            have hc3 : rs.length + 1 ≤ maxLen := by unfold maxLen; omega
            have hc4 : (rs.length + 1) * 88 ≤ 140737488355328 := by omega
            have hbw := HB2.out.size
            clear hb2 hB HR1 HB1 HX1 hown hcur c0 NUM
            go_wp2_with fail
            go_region_law
              ((refine step_append_lies _ (by rfl) _ _ _ (by rfl) w.heap.size 37 i0 (.agg #[.int .i64 0, .int .i64 0, .slice none 0 0, .slice none 0 0, .slice none 0 0]) 5 88 Tryd.underlying22 hi hz0 hz1 hz2 rfl (by decide) v.v rs.length (flatL encR rs) (by rfl) ((HO2.out.alloc _).drew)
                  ⟨w2.heap.size, 0, none⟩ 1 1 (encR ⟨a, b, Sl.nil, Sl.nil, Sl.nil⟩) (by rfl) (by rfl) (World.news_of_block (cs := #[.int .i64 a, .int .i64 b, .slice none 0 0, .slice none 0 0, .slice none 0 0]) (t := 37) (fr := (0, 0)) (heap_alloc_new w2 _)) (encR_one _)
                  (by omega) hc3 hc4 (by simp; omega) (w2.heap.size + 1) (by simp) ?_; intro gg cap w3 hown3 hgrow hat hlt3))
            all_goals
              have HRP : Hid (Rp w3 w.heap.size ⟨some ⟨gg, 0, none⟩, rs.length + 1, cap⟩ (ps ++ [⟨a, b, [], [], []⟩]) 0) := Rp.page (w := w2) (W := (w2.alloc (.cells #[.int .i64 a, .int .i64 b, .slice none 0 0, .slice none 0 0, .slice none 0 0] 37)).drew) (v := v) hrl HCUR.out
                (by rw [← hrl]; exact (HO2.out.alloc _).drew) (((KF.refl w2).alloc _).drew) hbw hown3 hgrow
              have HB3 : Hid (Below w.heap.size w w3) := ((bd (bl HB2.out _)).grown hgrow (by simp; omega) fun j hj => (HO2.out.lt j hj).1)
              clear hown3 hgrow hat
              go_wp2_with fail
              go_roundw
              case rel => exact ⟨k + 1, n + 1, k + 1, 0, ⟨some ⟨gg, 0, none⟩, rs.length + 1, cap⟩, ps ++ [⟨a, b, [], [], []⟩], by go_num, by go_num, by go_num, rfl, by rw [← hrl], by omega, by omega, by omega, HN, HRP, HB3⟩
              case measure => simp [intOf]; omega
          · have HE : Hid (parseP s.data.toList = ([], n + 1, 1)) := HI.out.wrong HC.out (by rw [← mid_list, HT.out]; rw [if_pos hP, pageOf_no hno]; rfl)
            have NUM := Lib.hid (numbers_no hno)
            clear hno HC
            go_wp2_with fail
            all_goals
              refine (NUM.out _ _ w1 (by first | exact HX1.out.shift | (rw [ys_nil (by omega : ys.length = 0)]; exact RowAt.nil _ _)) HY.out hyl).mono ?_
              rintro e w2 ⟨v2, rfl, hb2⟩
              have HB2 := Lib.hid (bt HB1.out hb2)
              go_wp2_with fail
              all_goals (go_ret3; exact parse_bad HE.out HB2.out)
        · have qP : (x.toList == [112, 97, 103, 101]) = false := word_no hP
          by_cases hW0 : x.data.toList = wHead
          · have q0 : (x.toList == [104, 101, 97, 100]) = true := word_yes hW0
            have q1 : (x.toList == [102, 108, 111, 119]) = false := word_no (by rw [hW0]; decide)
            have q2 : (x.toList == [102, 108, 111, 97, 116]) = false := word_no (by rw [hW0]; decide)
            have hkd : kindOf x.data.toList = 0 := by rw [hW0]; decide
            rcases num_form ys 7 with ⟨l, hl1, hl2⟩ | hno
            · obtain ⟨a0, a1, a2, a3, a4, a5, a6, rfl⟩ := seven hl2
              have hTL : tellP ((s.data.toList.drop frm).take (k - frm)) = .part ⟨a0, a1, a2, a3, a4, a5, a6⟩ 0 := by rw [← mid_list, HT.out, if_neg hP, hkd, if_neg (by decide), hl1]; rfl
              have HTL := Lib.hid hTL
              have hc1 : ¬ c = 1 := by
                have h2 : ys.length = 7 := by
                  have := rowP_len _ _ hl1
                  simpa [strs] using this.symm
                omega
              have NUM := Lib.hid (numbers_ok hl1 hl2)
              clear hl1 HT hTL
              by_cases hkl : 0 < last
              · have HE : Hid (parseP s.data.toList = ([], n + 1, 1)) := HI.out.wrong HC.out (by rw [HTL.out]; exact take_low_none _ _ _ _ hkl)
                have hkl' : (0 : Int) < (last : Int) := by omega
                clear HC
                go_wp2_with fail
                refine (NUM.out (some ⟨g, 1, none⟩) _ w1 HX1.out.shift HY.out hyl).mono ?_
                rintro e w2 ⟨B, d, rfl, hB, hb2⟩
                have HB2 := Lib.hid (bt HB1.out hb2)
                clear hB
                go_wp2_with fail
                go_ret3
                exact parse_bad HE.out HB2.out
              · have hkl' : ¬ (0 : Int) < (last : Int) := by omega
                by_cases hps : ps = []
                · have HE : Hid (parseP s.data.toList = ([], n + 1, 1)) := HI.out.wrong HC.out (by rw [HTL.out, hps]; exact takeP_part_nil _ _ _)
                  have hvn : v.n = 0 := by rw [HR1.out.n, hps]; rfl
                  obtain ⟨vA, vn, vc⟩ := v
                  simp only at hvn
                  subst hvn
                  simp only [Sl.v]
                  clear HC
                  go_wp2_with fail
                  refine (NUM.out (some ⟨g, 1, none⟩) _ w1 HX1.out.shift HY.out hyl).mono ?_
                  rintro e w2 ⟨B, d, rfl, hB, hb2⟩
                  have HB2 := Lib.hid (bt HB1.out hb2)
                  clear hB
                  go_wp2_with fail
                  go_ret3
                  exact parse_bad HE.out HB2.out
                · obtain ⟨pre, p, rfl⟩ : ∃ pre p, ps = pre ++ [p] := by
                    rcases List.eq_nil_or_concat ps with e | ⟨q, p, e⟩
                    · exact absurd e hps
                    · exact ⟨q, p, by rw [e, List.concat_eq_append]⟩
                  have hN0 : Inv s.data.toList (pre ++ [addPart p (⟨a0, a1, a2, a3, a4, a5, a6⟩ : Frag) 0]) 0 (n + 1) (k + 1) (k + 1) :=
                    HI.out.taken (st := (pre ++ [addPart p (⟨a0, a1, a2, a3, a4, a5, a6⟩ : Frag) 0], 0)) HC.out (by rw [HTL.out, takeP_part, if_neg hkl])
                  have HN := Lib.hid hN0
                  have hz1 : pre.length + 1 ≤ n := by have := HI.out.small.1; simpa using this
                  have hz2 : (pget p 0).length ≤ n := HI.out.small.2 p (by simp) 0
                  obtain ⟨gp, pc, rpre, r, Bf, rfl, hlp, hf1, hf2, hown1, hpre1, hcur1⟩ := HR1.out.part hkl HB1.out.size
                  have HO1 := Lib.hid hown1
                  have HPRE1 := Lib.hid hpre1
                  have HCUR1 := Lib.hid hcur1
                  have d1 : ((rpre.length : Int) + 1 == 0) = false := by rw [beq_eq_false_iff_ne]; omega
                  have hrl : rpre.length + 1 ≤ n := by omega
                  have HLP := Lib.hid hlp
                  simp only [Sl.v]
                  clear hlp HC HTL hown1 hpre1 hcur1 HR1 hN0 hps
                  go_wp2_with fail
                  refine (NUM.out (some ⟨g, 1, none⟩) _ w1 HX1.out.shift HY.out hyl).mono ?_
                  rintro e w2 ⟨B, d, rfl, hB, hb2⟩
                  have HO2 := Lib.hid (ob HO1.out hb2)
                  have HPRE2 := Lib.hid (HPRE1.out.kf (.below hb2))
                  have HCUR2 := Lib.hid (HCUR1.out.kf (.below hb2))
                  have HB2 := Lib.hid (bt HB1.out hb2)
                  have hf3 : Bf ≤ w2.heap.size := Nat.le_trans hf2 hb2.size
                  obtain ⟨bb, oo, rfl, hbb, hcells⟩ := seven_cells hB
                  have HCE := Lib.hid hcells
                  have hbw := HB2.out.size
                  clear hb2 hB HB1 HX1 HY NUM HO1 HPRE1 HCUR1 hf2 hcells hcap c0
                  go_wp2_with fail
                  have KEEP : Hid (∀ W, Below w2.heap.size w2 W → (W.cell? ⟨bb, oo, none⟩ = some (.int .i64 a0) ∧ W.cell? ⟨bb, oo + 1, none⟩ = some (.int .i64 a1) ∧ W.cell? ⟨bb, oo + 2, none⟩ = some (.int .i64 a2) ∧ W.cell? ⟨bb, oo + 3, none⟩ = some (.int .i64 a3) ∧ W.cell? ⟨bb, oo + 4, none⟩ = some (.int .i64 a4) ∧ W.cell? ⟨bb, oo + 5, none⟩ = some (.int .i64 a5) ∧ W.cell? ⟨bb, oo + 6, none⟩ = some (.int .i64 a6)) ∧ Hid (Below w2.heap.size w2 W)) :=
                    fun W h => ⟨seven_below hbb HCE.out h, h⟩
                  go_region_held3 (fun W => (W.cell? ⟨bb, oo, none⟩ = some (.int .i64 a0) ∧ W.cell? ⟨bb, oo + 1, none⟩ = some (.int .i64 a1) ∧ W.cell? ⟨bb, oo + 2, none⟩ = some (.int .i64 a2) ∧ W.cell? ⟨bb, oo + 3, none⟩ = some (.int .i64 a3) ∧ W.cell? ⟨bb, oo + 4, none⟩ = some (.int .i64 a4) ∧ W.cell? ⟨bb, oo + 5, none⟩ = some (.int .i64 a5) ∧ W.cell? ⟨bb, oo + 6, none⟩ = some (.int .i64 a6)) ∧ Hid (Below w2.heap.size w2 W))
                    (exact KEEP.out _ (by repeat (first | exact Below.refl _ _ | refine bl ?_ _ | refine bd ?_ | refine bset ?_ (by simp) _)))
                    (fail)
                  all_goals
                    refine gen_world (F := fun W => Blk W w2.heap.size 39 #[.int .i64 a0, .int .i64 a1, .int .i64 a2, .int .i64 a3, .int .i64 a4, .int .i64 a5, .int .i64 a6] ∧ W.ownsRow w.heap.size 37 5 (.slice (some ⟨gp, 0, none⟩) (rpre.length + 1) pc) (rpre.length + 1) (flatL encR (rpre ++ [r])) ∧ KF w2 W ∧ Below w.heap.size w W) (G := Exit.then _ _ _ _) _
                      ⟨Blk.drew (Blk.new w2 _ _), (HO2.out.alloc _).drew, ((KF.refl w2).alloc _).drew, bd (bl HB2.out _)⟩ ?_
                    rintro W3 ⟨hF3, hO3, hK3, hB3⟩
                    have HF3 := Lib.hid hF3
                    have HO3 := Lib.hid hO3
                    have HK3 := Lib.hid hK3
                    have HB3 := Lib.hid hB3
                    obtain ⟨c0, c1, c2, c3, c4⟩ := cells_five hO3
                    have f0 : ∀ o, (W3.alloc o).cell? ⟨w2.heap.size, 0, none⟩ = some (.int .i64 a0) := fun o => (HF3.out.alloc o).cell 0
                    have f1 : ∀ o, (W3.alloc o).cell? ⟨w2.heap.size, 1, none⟩ = some (.int .i64 a1) := fun o => (HF3.out.alloc o).cell 1
                    have f2 : ∀ o, (W3.alloc o).cell? ⟨w2.heap.size, 2, none⟩ = some (.int .i64 a2) := fun o => (HF3.out.alloc o).cell 2
                    have f3 : ∀ o, (W3.alloc o).cell? ⟨w2.heap.size, 3, none⟩ = some (.int .i64 a3) := fun o => (HF3.out.alloc o).cell 3
                    have f4 : ∀ o, (W3.alloc o).cell? ⟨w2.heap.size, 4, none⟩ = some (.int .i64 a4) := fun o => (HF3.out.alloc o).cell 4
                    have f5 : ∀ o, (W3.alloc o).cell? ⟨w2.heap.size, 5, none⟩ = some (.int .i64 a5) := fun o => (HF3.out.alloc o).cell 5
                    have f6 : ∀ o, (W3.alloc o).cell? ⟨w2.heap.size, 6, none⟩ = some (.int .i64 a6) := fun o => (HF3.out.alloc o).cell 6
                    have e1 : IntKind.i64.wrap ((rpre.length : Int) + 1 - 1) = rpre.length := by rw [show (rpre.length : Int) + 1 - 1 = rpre.length by omega]; exact IntWalk.i64_in _ (by omega)
                    have e2 : (0 : Int) ≤ (rpre.length : Int) := by omega
                    have e3 : (rpre.length : Int) < (rpre.length : Int) + 1 := by omega
                    have e4 : rpre.length < rpre.length + 1 := by omega
                    have hgP : gp < W3.heap.size := (hO3.lt gp rfl).2
                    clear hF3 hO3 hK3 hB3 KEEP HCE
                    go_wp2_with (at_builtin; refine gen_world (F := fun W => ∃ Y : World, W = Y.alloc (.cells #[.int .i64 a0, .int .i64 a1, .int .i64 a2, .int .i64 a3, .int .i64 a4, .int .i64 a5, .int .i64 a6] 39) ∧ Blk Y W3.heap.size 37 #[.int .i64 r.no, .int .i64 r.kind, r.h.v, r.f.v, r.l.v] ∧ Y.ownsRow w.heap.size 37 5 (.slice (some ⟨gp, 0, none⟩) (rpre.length + 1) pc) (rpre.length + 1) (flatL encR (rpre ++ [r])) ∧ KF w2 Y ∧ Below w.heap.size w Y ∧ Y.heap.size = W3.heap.size + 1) (G := fun W => wpList _ _ _ _ _ W) _ ⟨_, rfl, Blk.new W3 _ _, HO3.out.alloc _, HK3.out.alloc _, bl HB3.out _, by simp⟩ ?_; rintro _ ⟨Y, rfl, hPY, hOY, hKY, hBY, hsY⟩; refine wpList_append_part (by rfl) _ _ (by rfl) (by rfl) Bf r.h (pget p 0) (by rfl) ((hKY.own ((HCUR2.out.2.2 0 (by decide)).2.1 rfl)).alloc _) (some ⟨W3.heap.size + 1, 0, none⟩) (⟨a0, a1, a2, a3, a4, a5, a6⟩ : Frag) (by rfl) (by have := RowAt.new encF_len Y 39 [(⟨a0, a1, a2, a3, a4, a5, a6⟩ : Frag)]; rw [hsY] at this; exact this) (by omega) (by have := hKY.size; simp; omega) ?_)
                    intro s1 X1 own1 grow1
                    have hSY := (hKY.own ((HCUR2.out.2.2 0 (by decide)).2.1 rfl)).alloc (.cells #[.int .i64 a0, .int .i64 a1, .int .i64 a2, .int .i64 a3, .int .i64 a4, .int .i64 a5, .int .i64 a6] 39)
                    obtain ⟨cs, hcs⟩ := own_blk hOY rfl
                    have hgw : w.heap.size ≤ gp := (hOY.lt gp rfl).1
                    have hPX : Blk X1 W3.heap.size 37 #[.int .i64 r.no, .int .i64 r.kind, r.h.v, r.f.v, r.l.v] := (hPY.alloc _).grown grow1 (own_ne hSY (hPY.alloc _) (by decide))
                    have hCX : Blk X1 gp 37 cs := (hcs.alloc _).grown grow1 (own_ne hSY (hcs.alloc _) (by decide))
                    have hOX : X1.ownsRow w.heap.size 37 5 (.slice (some ⟨gp, 0, none⟩) (rpre.length + 1) pc) (rpre.length + 1) (flatL encR (rpre ++ [r])) := (hOY.alloc _).kept grow1 (.inr (own_ne hSY (hcs.alloc _) (by decide)))
                    have hKX : KX r.h.v.ownBlock w2 X1 := (hKY.alloc _).x grow1
                    have hBX : Below w.heap.size w X1 := (bl hBY _).grown grow1 (by have := hBY.size; simp; omega) fun j hj => Nat.le_trans hf1 (hSY.lt j hj).1
                    have x0 := hPX.cell 2
                    have z0 := hPX.frozen 2
                    simp only [List.getElem?_toArray, List.getElem?_cons_zero, List.getElem?_cons_succ] at x0
                    have hP2 : Blk (X1.setCell ⟨W3.heap.size, 2, none⟩ s1.v) W3.heap.size 37 #[.int .i64 r.no, .int .i64 r.kind, s1.v, r.f.v, r.l.v] := hPX.set_ 2 s1.v
                    have hC2 := hCX.far (p := ⟨W3.heap.size, 2, none⟩) (Nat.ne_of_lt hgP) s1.v
                    have hO2' := ownsRow_setCell_other hOX (a := ⟨W3.heap.size, 2, none⟩) (fun e => by injection e with e; exact Nat.ne_of_lt hgP e) s1.v
                    have hS2 := own_set own1 hPX (by decide) (j := 2) s1.v
                    obtain ⟨y0, y1, y2, y3, y4⟩ := hP2.facts5
                    obtain ⟨q0, q1, q2, q3, q4⟩ := cells_five hO2'
                    have qf := fun j => hO2'.frozenAt j
                    have HKX := Lib.hid hKX
                    have HPX := Lib.hid hPX
                    have HBX := Lib.hid (hBX.setCell (p := ⟨W3.heap.size, 2, none⟩) (by have := HB3.out.size; simpa using this) s1.v)
                    have HO4 := Lib.hid hO2'
                    have HC4 := Lib.hid hC2
                    have HS4 := Lib.hid hS2
                    clear own1 grow1 hSY hcs hPX hCX hOX hKX hBX hP2 hC2 hO2' hS2 hPY hOY hKY hBY c0 c1 c2 c3 c4 f0 f1 f2 f3 f4 f5 f6
                    go_wp2_with fail
                    have HRP : Hid (Rp (setFive (X1.setCell ⟨W3.heap.size, 2, none⟩ s1.v) gp (rpre.length * 5) (.int .i64 (r.put s1 0).no) (.int .i64 (r.put s1 0).kind) (r.put s1 0).h.v (r.put s1 0).f.v (r.put s1 0).l.v) w.heap.size ⟨some ⟨gp, 0, none⟩, rpre.length + 1, pc⟩ (pre ++ [addPart p (⟨a0, a1, a2, a3, a4, a5, a6⟩ : Frag) 0]) 0) :=
                      Rp.added (w := w2) HLP.out hf1 hf3 HPRE2.out HCUR2.out (by decide) (⟨a0, a1, a2, a3, a4, a5, a6⟩ : Frag) (s := s1) (own_five_other HS4.out HC4.out (by decide) _ _ _ _ _ _)
                        ((HKX.out.kf ((KF.refl X1).setCell HPX.out (by decide) _)).kf ((KF.refl _).five HC4.out _ _ _ _ _ _)) (own_five HO4.out (r.put s1 0))
                    have HB5 := Lib.hid (Below.five HBX.out hgw (rpre.length * 5) (.int .i64 (r.put s1 0).no) (.int .i64 (r.put s1 0).kind) (r.put s1 0).h.v (r.put s1 0).f.v (r.put s1 0).l.v)
                    go_roundw
                    case rel => exact ⟨k + 1, n + 1, k + 1, 0, ⟨some ⟨gp, 0, none⟩, rpre.length + 1, pc⟩, _, by go_num, by go_num, by go_num, rfl, rfl, by omega, by omega, by omega, HN, HRP, HB5⟩
                    case measure => simp [intOf]; omega
            · have HE : Hid (parseP s.data.toList = ([], n + 1, 1)) := HI.out.wrong HC.out (by rw [← mid_list, HT.out]; rw [if_neg hP, hkd, if_neg (by decide), partOf_no hno]; rfl)
              have NUM := Lib.hid (numbers_no hno)
              clear hno HC
              go_wp2_with fail
              all_goals
                refine (NUM.out _ _ w1 (by first | exact HX1.out.shift | (rw [ys_nil (by omega : ys.length = 0)]; exact RowAt.nil _ _)) HY.out hyl).mono ?_
                rintro e w2 ⟨v2, rfl, hb2⟩
                have HB2 := Lib.hid (bt HB1.out hb2)
                go_wp2_with fail
                all_goals (go_ret3; exact parse_bad HE.out HB2.out)
          · by_cases hW1 : x.data.toList = wFlow
            · have q0 : (x.toList == [104, 101, 97, 100]) = false := word_no (by rw [hW1]; decide)
              have q1 : (x.toList == [102, 108, 111, 119]) = true := word_yes hW1
              have q2 : (x.toList == [102, 108, 111, 97, 116]) = false := word_no (by rw [hW1]; decide)
              have hkd : kindOf x.data.toList = 1 := by rw [hW1]; decide
              rcases num_form ys 7 with ⟨l, hl1, hl2⟩ | hno
              · obtain ⟨a0, a1, a2, a3, a4, a5, a6, rfl⟩ := seven hl2
                have hTL : tellP ((s.data.toList.drop frm).take (k - frm)) = .part ⟨a0, a1, a2, a3, a4, a5, a6⟩ 1 := by rw [← mid_list, HT.out, if_neg hP, hkd, if_neg (by decide), hl1]; rfl
                have HTL := Lib.hid hTL
                have hc1 : ¬ c = 1 := by
                  have h2 : ys.length = 7 := by
                    have := rowP_len _ _ hl1
                    simpa [strs] using this.symm
                  omega
                have NUM := Lib.hid (numbers_ok hl1 hl2)
                clear hl1 HT hTL
                by_cases hkl : 1 < last
                · have HE : Hid (parseP s.data.toList = ([], n + 1, 1)) := HI.out.wrong HC.out (by rw [HTL.out]; exact take_low_none _ _ _ _ hkl)
                  have hkl' : (1 : Int) < (last : Int) := by omega
                  clear HC
                  go_wp2_with fail
                  refine (NUM.out (some ⟨g, 1, none⟩) _ w1 HX1.out.shift HY.out hyl).mono ?_
                  rintro e w2 ⟨B, d, rfl, hB, hb2⟩
                  have HB2 := Lib.hid (bt HB1.out hb2)
                  clear hB
                  go_wp2_with fail
                  go_ret3
                  exact parse_bad HE.out HB2.out
                · have hkl' : ¬ (1 : Int) < (last : Int) := by omega
                  by_cases hps : ps = []
                  · have HE : Hid (parseP s.data.toList = ([], n + 1, 1)) := HI.out.wrong HC.out (by rw [HTL.out, hps]; exact takeP_part_nil _ _ _)
                    have hvn : v.n = 0 := by rw [HR1.out.n, hps]; rfl
                    obtain ⟨vA, vn, vc⟩ := v
                    simp only at hvn
                    subst hvn
                    simp only [Sl.v]
                    clear HC
                    go_wp2_with fail
                    refine (NUM.out (some ⟨g, 1, none⟩) _ w1 HX1.out.shift HY.out hyl).mono ?_
                    rintro e w2 ⟨B, d, rfl, hB, hb2⟩
                    have HB2 := Lib.hid (bt HB1.out hb2)
                    clear hB
                    go_wp2_with fail
                    go_ret3
                    exact parse_bad HE.out HB2.out
                  · obtain ⟨pre, p, rfl⟩ : ∃ pre p, ps = pre ++ [p] := by
                      rcases List.eq_nil_or_concat ps with e | ⟨q, p, e⟩
                      · exact absurd e hps
                      · exact ⟨q, p, by rw [e, List.concat_eq_append]⟩
                    have hN0 : Inv s.data.toList (pre ++ [addPart p (⟨a0, a1, a2, a3, a4, a5, a6⟩ : Frag) 1]) 1 (n + 1) (k + 1) (k + 1) :=
                      HI.out.taken (st := (pre ++ [addPart p (⟨a0, a1, a2, a3, a4, a5, a6⟩ : Frag) 1], 1)) HC.out (by rw [HTL.out, takeP_part, if_neg hkl])
                    have HN := Lib.hid hN0
                    have hz1 : pre.length + 1 ≤ n := by have := HI.out.small.1; simpa using this
                    have hz2 : (pget p 1).length ≤ n := HI.out.small.2 p (by simp) 1
                    obtain ⟨gp, pc, rpre, r, Bf, rfl, hlp, hf1, hf2, hown1, hpre1, hcur1⟩ := HR1.out.part hkl HB1.out.size
                    have HO1 := Lib.hid hown1
                    have HPRE1 := Lib.hid hpre1
                    have HCUR1 := Lib.hid hcur1
                    have d1 : ((rpre.length : Int) + 1 == 0) = false := by rw [beq_eq_false_iff_ne]; omega
                    have hrl : rpre.length + 1 ≤ n := by omega
                    have HLP := Lib.hid hlp
                    simp only [Sl.v]
                    clear hlp HC HTL hown1 hpre1 hcur1 HR1 hN0 hps
                    go_wp2_with fail
                    refine (NUM.out (some ⟨g, 1, none⟩) _ w1 HX1.out.shift HY.out hyl).mono ?_
                    rintro e w2 ⟨B, d, rfl, hB, hb2⟩
                    have HO2 := Lib.hid (ob HO1.out hb2)
                    have HPRE2 := Lib.hid (HPRE1.out.kf (.below hb2))
                    have HCUR2 := Lib.hid (HCUR1.out.kf (.below hb2))
                    have HB2 := Lib.hid (bt HB1.out hb2)
                    have hf3 : Bf ≤ w2.heap.size := Nat.le_trans hf2 hb2.size
                    obtain ⟨bb, oo, rfl, hbb, hcells⟩ := seven_cells hB
                    have HCE := Lib.hid hcells
                    have hbw := HB2.out.size
                    clear hb2 hB HB1 HX1 HY NUM HO1 HPRE1 HCUR1 hf2 hcells hcap c0
                    go_wp2_with fail
                    have KEEP : Hid (∀ W, Below w2.heap.size w2 W → (W.cell? ⟨bb, oo, none⟩ = some (.int .i64 a0) ∧ W.cell? ⟨bb, oo + 1, none⟩ = some (.int .i64 a1) ∧ W.cell? ⟨bb, oo + 2, none⟩ = some (.int .i64 a2) ∧ W.cell? ⟨bb, oo + 3, none⟩ = some (.int .i64 a3) ∧ W.cell? ⟨bb, oo + 4, none⟩ = some (.int .i64 a4) ∧ W.cell? ⟨bb, oo + 5, none⟩ = some (.int .i64 a5) ∧ W.cell? ⟨bb, oo + 6, none⟩ = some (.int .i64 a6)) ∧ Hid (Below w2.heap.size w2 W)) :=
                      fun W h => ⟨seven_below hbb HCE.out h, h⟩
                    go_region_held3 (fun W => (W.cell? ⟨bb, oo, none⟩ = some (.int .i64 a0) ∧ W.cell? ⟨bb, oo + 1, none⟩ = some (.int .i64 a1) ∧ W.cell? ⟨bb, oo + 2, none⟩ = some (.int .i64 a2) ∧ W.cell? ⟨bb, oo + 3, none⟩ = some (.int .i64 a3) ∧ W.cell? ⟨bb, oo + 4, none⟩ = some (.int .i64 a4) ∧ W.cell? ⟨bb, oo + 5, none⟩ = some (.int .i64 a5) ∧ W.cell? ⟨bb, oo + 6, none⟩ = some (.int .i64 a6)) ∧ Hid (Below w2.heap.size w2 W))
                      (exact KEEP.out _ (by repeat (first | exact Below.refl _ _ | refine bl ?_ _ | refine bd ?_ | refine bset ?_ (by simp) _)))
                      (fail)
                    all_goals
                      refine gen_world (F := fun W => Blk W w2.heap.size 39 #[.int .i64 a0, .int .i64 a1, .int .i64 a2, .int .i64 a3, .int .i64 a4, .int .i64 a5, .int .i64 a6] ∧ W.ownsRow w.heap.size 37 5 (.slice (some ⟨gp, 0, none⟩) (rpre.length + 1) pc) (rpre.length + 1) (flatL encR (rpre ++ [r])) ∧ KF w2 W ∧ Below w.heap.size w W) (G := Exit.then _ _ _ _) _
                        ⟨Blk.drew (Blk.new w2 _ _), (HO2.out.alloc _).drew, ((KF.refl w2).alloc _).drew, bd (bl HB2.out _)⟩ ?_
                      rintro W3 ⟨hF3, hO3, hK3, hB3⟩
                      have HF3 := Lib.hid hF3
                      have HO3 := Lib.hid hO3
                      have HK3 := Lib.hid hK3
                      have HB3 := Lib.hid hB3
                      obtain ⟨c0, c1, c2, c3, c4⟩ := cells_five hO3
                      have f0 : ∀ o, (W3.alloc o).cell? ⟨w2.heap.size, 0, none⟩ = some (.int .i64 a0) := fun o => (HF3.out.alloc o).cell 0
                      have f1 : ∀ o, (W3.alloc o).cell? ⟨w2.heap.size, 1, none⟩ = some (.int .i64 a1) := fun o => (HF3.out.alloc o).cell 1
                      have f2 : ∀ o, (W3.alloc o).cell? ⟨w2.heap.size, 2, none⟩ = some (.int .i64 a2) := fun o => (HF3.out.alloc o).cell 2
                      have f3 : ∀ o, (W3.alloc o).cell? ⟨w2.heap.size, 3, none⟩ = some (.int .i64 a3) := fun o => (HF3.out.alloc o).cell 3
                      have f4 : ∀ o, (W3.alloc o).cell? ⟨w2.heap.size, 4, none⟩ = some (.int .i64 a4) := fun o => (HF3.out.alloc o).cell 4
                      have f5 : ∀ o, (W3.alloc o).cell? ⟨w2.heap.size, 5, none⟩ = some (.int .i64 a5) := fun o => (HF3.out.alloc o).cell 5
                      have f6 : ∀ o, (W3.alloc o).cell? ⟨w2.heap.size, 6, none⟩ = some (.int .i64 a6) := fun o => (HF3.out.alloc o).cell 6
                      have e1 : IntKind.i64.wrap ((rpre.length : Int) + 1 - 1) = rpre.length := by rw [show (rpre.length : Int) + 1 - 1 = rpre.length by omega]; exact IntWalk.i64_in _ (by omega)
                      have e2 : (0 : Int) ≤ (rpre.length : Int) := by omega
                      have e3 : (rpre.length : Int) < (rpre.length : Int) + 1 := by omega
                      have e4 : rpre.length < rpre.length + 1 := by omega
                      have hgP : gp < W3.heap.size := (hO3.lt gp rfl).2
                      clear hF3 hO3 hK3 hB3 KEEP HCE
                      go_wp2_with (at_builtin; refine gen_world (F := fun W => ∃ Y : World, W = Y.alloc (.cells #[.int .i64 a0, .int .i64 a1, .int .i64 a2, .int .i64 a3, .int .i64 a4, .int .i64 a5, .int .i64 a6] 39) ∧ Blk Y W3.heap.size 37 #[.int .i64 r.no, .int .i64 r.kind, r.h.v, r.f.v, r.l.v] ∧ Y.ownsRow w.heap.size 37 5 (.slice (some ⟨gp, 0, none⟩) (rpre.length + 1) pc) (rpre.length + 1) (flatL encR (rpre ++ [r])) ∧ KF w2 Y ∧ Below w.heap.size w Y ∧ Y.heap.size = W3.heap.size + 1) (G := fun W => wpList _ _ _ _ _ W) _ ⟨_, rfl, Blk.new W3 _ _, HO3.out.alloc _, HK3.out.alloc _, bl HB3.out _, by simp⟩ ?_; rintro _ ⟨Y, rfl, hPY, hOY, hKY, hBY, hsY⟩; refine wpList_append_part (by rfl) _ _ (by rfl) (by rfl) Bf r.f (pget p 1) (by rfl) ((hKY.own ((HCUR2.out.2.2 1 (by decide)).2.1 rfl)).alloc _) (some ⟨W3.heap.size + 1, 0, none⟩) (⟨a0, a1, a2, a3, a4, a5, a6⟩ : Frag) (by rfl) (by have := RowAt.new encF_len Y 39 [(⟨a0, a1, a2, a3, a4, a5, a6⟩ : Frag)]; rw [hsY] at this; exact this) (by omega) (by have := hKY.size; simp; omega) ?_)
                      intro s1 X1 own1 grow1
                      have hSY := (hKY.own ((HCUR2.out.2.2 1 (by decide)).2.1 rfl)).alloc (.cells #[.int .i64 a0, .int .i64 a1, .int .i64 a2, .int .i64 a3, .int .i64 a4, .int .i64 a5, .int .i64 a6] 39)
                      obtain ⟨cs, hcs⟩ := own_blk hOY rfl
                      have hgw : w.heap.size ≤ gp := (hOY.lt gp rfl).1
                      have hPX : Blk X1 W3.heap.size 37 #[.int .i64 r.no, .int .i64 r.kind, r.h.v, r.f.v, r.l.v] := (hPY.alloc _).grown grow1 (own_ne hSY (hPY.alloc _) (by decide))
                      have hCX : Blk X1 gp 37 cs := (hcs.alloc _).grown grow1 (own_ne hSY (hcs.alloc _) (by decide))
                      have hOX : X1.ownsRow w.heap.size 37 5 (.slice (some ⟨gp, 0, none⟩) (rpre.length + 1) pc) (rpre.length + 1) (flatL encR (rpre ++ [r])) := (hOY.alloc _).kept grow1 (.inr (own_ne hSY (hcs.alloc _) (by decide)))
                      have hKX : KX r.f.v.ownBlock w2 X1 := (hKY.alloc _).x grow1
                      have hBX : Below w.heap.size w X1 := (bl hBY _).grown grow1 (by have := hBY.size; simp; omega) fun j hj => Nat.le_trans hf1 (hSY.lt j hj).1
                      have x0 := hPX.cell 3
                      have z0 := hPX.frozen 3
                      simp only [List.getElem?_toArray, List.getElem?_cons_zero, List.getElem?_cons_succ] at x0
                      have hP2 : Blk (X1.setCell ⟨W3.heap.size, 3, none⟩ s1.v) W3.heap.size 37 #[.int .i64 r.no, .int .i64 r.kind, r.h.v, s1.v, r.l.v] := hPX.set_ 3 s1.v
                      have hC2 := hCX.far (p := ⟨W3.heap.size, 3, none⟩) (Nat.ne_of_lt hgP) s1.v
                      have hO2' := ownsRow_setCell_other hOX (a := ⟨W3.heap.size, 3, none⟩) (fun e => by injection e with e; exact Nat.ne_of_lt hgP e) s1.v
                      have hS2 := own_set own1 hPX (by decide) (j := 3) s1.v
                      obtain ⟨y0, y1, y2, y3, y4⟩ := hP2.facts5
                      obtain ⟨q0, q1, q2, q3, q4⟩ := cells_five hO2'
                      have qf := fun j => hO2'.frozenAt j
                      have HKX := Lib.hid hKX
                      have HPX := Lib.hid hPX
                      have HBX := Lib.hid (hBX.setCell (p := ⟨W3.heap.size, 3, none⟩) (by have := HB3.out.size; simpa using this) s1.v)
                      have HO4 := Lib.hid hO2'
                      have HC4 := Lib.hid hC2
                      have HS4 := Lib.hid hS2
                      clear own1 grow1 hSY hcs hPX hCX hOX hKX hBX hP2 hC2 hO2' hS2 hPY hOY hKY hBY c0 c1 c2 c3 c4 f0 f1 f2 f3 f4 f5 f6
                      go_wp2_with fail
                      have HRP : Hid (Rp (setFive (X1.setCell ⟨W3.heap.size, 3, none⟩ s1.v) gp (rpre.length * 5) (.int .i64 (r.put s1 1).no) (.int .i64 (r.put s1 1).kind) (r.put s1 1).h.v (r.put s1 1).f.v (r.put s1 1).l.v) w.heap.size ⟨some ⟨gp, 0, none⟩, rpre.length + 1, pc⟩ (pre ++ [addPart p (⟨a0, a1, a2, a3, a4, a5, a6⟩ : Frag) 1]) 1) :=
                        Rp.added (w := w2) HLP.out hf1 hf3 HPRE2.out HCUR2.out (by decide) (⟨a0, a1, a2, a3, a4, a5, a6⟩ : Frag) (s := s1) (own_five_other HS4.out HC4.out (by decide) _ _ _ _ _ _)
                          ((HKX.out.kf ((KF.refl X1).setCell HPX.out (by decide) _)).kf ((KF.refl _).five HC4.out _ _ _ _ _ _)) (own_five HO4.out (r.put s1 1))
                      have HB5 := Lib.hid (Below.five HBX.out hgw (rpre.length * 5) (.int .i64 (r.put s1 1).no) (.int .i64 (r.put s1 1).kind) (r.put s1 1).h.v (r.put s1 1).f.v (r.put s1 1).l.v)
                      go_roundw
                      case rel => exact ⟨k + 1, n + 1, k + 1, 1, ⟨some ⟨gp, 0, none⟩, rpre.length + 1, pc⟩, _, by go_num, by go_num, by go_num, rfl, rfl, by omega, by omega, by omega, HN, HRP, HB5⟩
                      case measure => simp [intOf]; omega
              · have HE : Hid (parseP s.data.toList = ([], n + 1, 1)) := HI.out.wrong HC.out (by rw [← mid_list, HT.out]; rw [if_neg hP, hkd, if_neg (by decide), partOf_no hno]; rfl)
                have NUM := Lib.hid (numbers_no hno)
                clear hno HC
                go_wp2_with fail
                all_goals
                  refine (NUM.out _ _ w1 (by first | exact HX1.out.shift | (rw [ys_nil (by omega : ys.length = 0)]; exact RowAt.nil _ _)) HY.out hyl).mono ?_
                  rintro e w2 ⟨v2, rfl, hb2⟩
                  have HB2 := Lib.hid (bt HB1.out hb2)
                  go_wp2_with fail
                  all_goals (go_ret3; exact parse_bad HE.out HB2.out)
            · by_cases hW2 : x.data.toList = wFloat
              · have q0 : (x.toList == [104, 101, 97, 100]) = false := word_no (by rw [hW2]; decide)
                have q1 : (x.toList == [102, 108, 111, 119]) = false := word_no (by rw [hW2]; decide)
                have q2 : (x.toList == [102, 108, 111, 97, 116]) = true := word_yes hW2
                have hkd : kindOf x.data.toList = 2 := by rw [hW2]; decide
                rcases num_form ys 7 with ⟨l, hl1, hl2⟩ | hno
                · obtain ⟨a0, a1, a2, a3, a4, a5, a6, rfl⟩ := seven hl2
                  have hTL : tellP ((s.data.toList.drop frm).take (k - frm)) = .part ⟨a0, a1, a2, a3, a4, a5, a6⟩ 2 := by rw [← mid_list, HT.out, if_neg hP, hkd, if_neg (by decide), hl1]; rfl
                  have HTL := Lib.hid hTL
                  have hc1 : ¬ c = 1 := by
                    have h2 : ys.length = 7 := by
                      have := rowP_len _ _ hl1
                      simpa [strs] using this.symm
                    omega
                  have NUM := Lib.hid (numbers_ok hl1 hl2)
                  clear hl1 HT hTL
                  by_cases hkl : 2 < last
                  · have HE : Hid (parseP s.data.toList = ([], n + 1, 1)) := HI.out.wrong HC.out (by rw [HTL.out]; exact take_low_none _ _ _ _ hkl)
                    have hkl' : (2 : Int) < (last : Int) := by omega
                    clear HC
                    go_wp2_with fail
                    refine (NUM.out (some ⟨g, 1, none⟩) _ w1 HX1.out.shift HY.out hyl).mono ?_
                    rintro e w2 ⟨B, d, rfl, hB, hb2⟩
                    have HB2 := Lib.hid (bt HB1.out hb2)
                    clear hB
                    go_wp2_with fail
                    go_ret3
                    exact parse_bad HE.out HB2.out
                  · have hkl' : ¬ (2 : Int) < (last : Int) := by omega
                    by_cases hps : ps = []
                    · have HE : Hid (parseP s.data.toList = ([], n + 1, 1)) := HI.out.wrong HC.out (by rw [HTL.out, hps]; exact takeP_part_nil _ _ _)
                      have hvn : v.n = 0 := by rw [HR1.out.n, hps]; rfl
                      obtain ⟨vA, vn, vc⟩ := v
                      simp only at hvn
                      subst hvn
                      simp only [Sl.v]
                      clear HC
                      go_wp2_with fail
                      refine (NUM.out (some ⟨g, 1, none⟩) _ w1 HX1.out.shift HY.out hyl).mono ?_
                      rintro e w2 ⟨B, d, rfl, hB, hb2⟩
                      have HB2 := Lib.hid (bt HB1.out hb2)
                      clear hB
                      go_wp2_with fail
                      go_ret3
                      exact parse_bad HE.out HB2.out
                    · obtain ⟨pre, p, rfl⟩ : ∃ pre p, ps = pre ++ [p] := by
                        rcases List.eq_nil_or_concat ps with e | ⟨q, p, e⟩
                        · exact absurd e hps
                        · exact ⟨q, p, by rw [e, List.concat_eq_append]⟩
                      have hN0 : Inv s.data.toList (pre ++ [addPart p (⟨a0, a1, a2, a3, a4, a5, a6⟩ : Frag) 2]) 2 (n + 1) (k + 1) (k + 1) :=
                        HI.out.taken (st := (pre ++ [addPart p (⟨a0, a1, a2, a3, a4, a5, a6⟩ : Frag) 2], 2)) HC.out (by rw [HTL.out, takeP_part, if_neg hkl])
                      have HN := Lib.hid hN0
                      have hz1 : pre.length + 1 ≤ n := by have := HI.out.small.1; simpa using this
                      have hz2 : (pget p 2).length ≤ n := HI.out.small.2 p (by simp) 2
                      obtain ⟨gp, pc, rpre, r, Bf, rfl, hlp, hf1, hf2, hown1, hpre1, hcur1⟩ := HR1.out.part hkl HB1.out.size
                      have HO1 := Lib.hid hown1
                      have HPRE1 := Lib.hid hpre1
                      have HCUR1 := Lib.hid hcur1
                      have d1 : ((rpre.length : Int) + 1 == 0) = false := by rw [beq_eq_false_iff_ne]; omega
                      have hrl : rpre.length + 1 ≤ n := by omega
                      have HLP := Lib.hid hlp
                      simp only [Sl.v]
                      clear hlp HC HTL hown1 hpre1 hcur1 HR1 hN0 hps
                      go_wp2_with fail
                      refine (NUM.out (some ⟨g, 1, none⟩) _ w1 HX1.out.shift HY.out hyl).mono ?_
                      rintro e w2 ⟨B, d, rfl, hB, hb2⟩
                      have HO2 := Lib.hid (ob HO1.out hb2)
                      have HPRE2 := Lib.hid (HPRE1.out.kf (.below hb2))
                      have HCUR2 := Lib.hid (HCUR1.out.kf (.below hb2))
                      have HB2 := Lib.hid (bt HB1.out hb2)
                      have hf3 : Bf ≤ w2.heap.size := Nat.le_trans hf2 hb2.size
                      obtain ⟨bb, oo, rfl, hbb, hcells⟩ := seven_cells hB
                      have HCE := Lib.hid hcells
                      have hbw := HB2.out.size
                      clear hb2 hB HB1 HX1 HY NUM HO1 HPRE1 HCUR1 hf2 hcells hcap c0
                      go_wp2_with fail
                      have KEEP : Hid (∀ W, Below w2.heap.size w2 W → (W.cell? ⟨bb, oo, none⟩ = some (.int .i64 a0) ∧ W.cell? ⟨bb, oo + 1, none⟩ = some (.int .i64 a1) ∧ W.cell? ⟨bb, oo + 2, none⟩ = some (.int .i64 a2) ∧ W.cell? ⟨bb, oo + 3, none⟩ = some (.int .i64 a3) ∧ W.cell? ⟨bb, oo + 4, none⟩ = some (.int .i64 a4) ∧ W.cell? ⟨bb, oo + 5, none⟩ = some (.int .i64 a5) ∧ W.cell? ⟨bb, oo + 6, none⟩ = some (.int .i64 a6)) ∧ Hid (Below w2.heap.size w2 W)) :=
                        fun W h => ⟨seven_below hbb HCE.out h, h⟩
                      go_region_held3 (fun W => (W.cell? ⟨bb, oo, none⟩ = some (.int .i64 a0) ∧ W.cell? ⟨bb, oo + 1, none⟩ = some (.int .i64 a1) ∧ W.cell? ⟨bb, oo + 2, none⟩ = some (.int .i64 a2) ∧ W.cell? ⟨bb, oo + 3, none⟩ = some (.int .i64 a3) ∧ W.cell? ⟨bb, oo + 4, none⟩ = some (.int .i64 a4) ∧ W.cell? ⟨bb, oo + 5, none⟩ = some (.int .i64 a5) ∧ W.cell? ⟨bb, oo + 6, none⟩ = some (.int .i64 a6)) ∧ Hid (Below w2.heap.size w2 W))
                        (exact KEEP.out _ (by repeat (first | exact Below.refl _ _ | refine bl ?_ _ | refine bd ?_ | refine bset ?_ (by simp) _)))
                        (fail)
                      all_goals
                        refine gen_world (F := fun W => Blk W w2.heap.size 39 #[.int .i64 a0, .int .i64 a1, .int .i64 a2, .int .i64 a3, .int .i64 a4, .int .i64 a5, .int .i64 a6] ∧ W.ownsRow w.heap.size 37 5 (.slice (some ⟨gp, 0, none⟩) (rpre.length + 1) pc) (rpre.length + 1) (flatL encR (rpre ++ [r])) ∧ KF w2 W ∧ Below w.heap.size w W) (G := Exit.then _ _ _ _) _
                          ⟨Blk.drew (Blk.new w2 _ _), (HO2.out.alloc _).drew, ((KF.refl w2).alloc _).drew, bd (bl HB2.out _)⟩ ?_
                        rintro W3 ⟨hF3, hO3, hK3, hB3⟩
                        have HF3 := Lib.hid hF3
                        have HO3 := Lib.hid hO3
                        have HK3 := Lib.hid hK3
                        have HB3 := Lib.hid hB3
                        obtain ⟨c0, c1, c2, c3, c4⟩ := cells_five hO3
                        have f0 : ∀ o, (W3.alloc o).cell? ⟨w2.heap.size, 0, none⟩ = some (.int .i64 a0) := fun o => (HF3.out.alloc o).cell 0
                        have f1 : ∀ o, (W3.alloc o).cell? ⟨w2.heap.size, 1, none⟩ = some (.int .i64 a1) := fun o => (HF3.out.alloc o).cell 1
                        have f2 : ∀ o, (W3.alloc o).cell? ⟨w2.heap.size, 2, none⟩ = some (.int .i64 a2) := fun o => (HF3.out.alloc o).cell 2
                        have f3 : ∀ o, (W3.alloc o).cell? ⟨w2.heap.size, 3, none⟩ = some (.int .i64 a3) := fun o => (HF3.out.alloc o).cell 3
                        have f4 : ∀ o, (W3.alloc o).cell? ⟨w2.heap.size, 4, none⟩ = some (.int .i64 a4) := fun o => (HF3.out.alloc o).cell 4
                        have f5 : ∀ o, (W3.alloc o).cell? ⟨w2.heap.size, 5, none⟩ = some (.int .i64 a5) := fun o => (HF3.out.alloc o).cell 5
                        have f6 : ∀ o, (W3.alloc o).cell? ⟨w2.heap.size, 6, none⟩ = some (.int .i64 a6) := fun o => (HF3.out.alloc o).cell 6
                        have e1 : IntKind.i64.wrap ((rpre.length : Int) + 1 - 1) = rpre.length := by rw [show (rpre.length : Int) + 1 - 1 = rpre.length by omega]; exact IntWalk.i64_in _ (by omega)
                        have e2 : (0 : Int) ≤ (rpre.length : Int) := by omega
                        have e3 : (rpre.length : Int) < (rpre.length : Int) + 1 := by omega
                        have e4 : rpre.length < rpre.length + 1 := by omega
                        have hgP : gp < W3.heap.size := (hO3.lt gp rfl).2
                        clear hF3 hO3 hK3 hB3 KEEP HCE
                        go_wp2_with (at_builtin; refine gen_world (F := fun W => ∃ Y : World, W = Y.alloc (.cells #[.int .i64 a0, .int .i64 a1, .int .i64 a2, .int .i64 a3, .int .i64 a4, .int .i64 a5, .int .i64 a6] 39) ∧ Blk Y W3.heap.size 37 #[.int .i64 r.no, .int .i64 r.kind, r.h.v, r.f.v, r.l.v] ∧ Y.ownsRow w.heap.size 37 5 (.slice (some ⟨gp, 0, none⟩) (rpre.length + 1) pc) (rpre.length + 1) (flatL encR (rpre ++ [r])) ∧ KF w2 Y ∧ Below w.heap.size w Y ∧ Y.heap.size = W3.heap.size + 1) (G := fun W => wpList _ _ _ _ _ W) _ ⟨_, rfl, Blk.new W3 _ _, HO3.out.alloc _, HK3.out.alloc _, bl HB3.out _, by simp⟩ ?_; rintro _ ⟨Y, rfl, hPY, hOY, hKY, hBY, hsY⟩; refine wpList_append_part (by rfl) _ _ (by rfl) (by rfl) Bf r.l (pget p 2) (by rfl) ((hKY.own ((HCUR2.out.2.2 2 (by decide)).2.1 rfl)).alloc _) (some ⟨W3.heap.size + 1, 0, none⟩) (⟨a0, a1, a2, a3, a4, a5, a6⟩ : Frag) (by rfl) (by have := RowAt.new encF_len Y 39 [(⟨a0, a1, a2, a3, a4, a5, a6⟩ : Frag)]; rw [hsY] at this; exact this) (by omega) (by have := hKY.size; simp; omega) ?_)
                        intro s1 X1 own1 grow1
                        have hSY := (hKY.own ((HCUR2.out.2.2 2 (by decide)).2.1 rfl)).alloc (.cells #[.int .i64 a0, .int .i64 a1, .int .i64 a2, .int .i64 a3, .int .i64 a4, .int .i64 a5, .int .i64 a6] 39)
                        obtain ⟨cs, hcs⟩ := own_blk hOY rfl
                        have hgw : w.heap.size ≤ gp := (hOY.lt gp rfl).1
                        have hPX : Blk X1 W3.heap.size 37 #[.int .i64 r.no, .int .i64 r.kind, r.h.v, r.f.v, r.l.v] := (hPY.alloc _).grown grow1 (own_ne hSY (hPY.alloc _) (by decide))
                        have hCX : Blk X1 gp 37 cs := (hcs.alloc _).grown grow1 (own_ne hSY (hcs.alloc _) (by decide))
                        have hOX : X1.ownsRow w.heap.size 37 5 (.slice (some ⟨gp, 0, none⟩) (rpre.length + 1) pc) (rpre.length + 1) (flatL encR (rpre ++ [r])) := (hOY.alloc _).kept grow1 (.inr (own_ne hSY (hcs.alloc _) (by decide)))
                        have hKX : KX r.l.v.ownBlock w2 X1 := (hKY.alloc _).x grow1
                        have hBX : Below w.heap.size w X1 := (bl hBY _).grown grow1 (by have := hBY.size; simp; omega) fun j hj => Nat.le_trans hf1 (hSY.lt j hj).1
                        have x0 := hPX.cell 4
                        have z0 := hPX.frozen 4
                        simp only [List.getElem?_toArray, List.getElem?_cons_zero, List.getElem?_cons_succ] at x0
                        have hP2 : Blk (X1.setCell ⟨W3.heap.size, 4, none⟩ s1.v) W3.heap.size 37 #[.int .i64 r.no, .int .i64 r.kind, r.h.v, r.f.v, s1.v] := hPX.set_ 4 s1.v
                        have hC2 := hCX.far (p := ⟨W3.heap.size, 4, none⟩) (Nat.ne_of_lt hgP) s1.v
                        have hO2' := ownsRow_setCell_other hOX (a := ⟨W3.heap.size, 4, none⟩) (fun e => by injection e with e; exact Nat.ne_of_lt hgP e) s1.v
                        have hS2 := own_set own1 hPX (by decide) (j := 4) s1.v
                        obtain ⟨y0, y1, y2, y3, y4⟩ := hP2.facts5
                        obtain ⟨q0, q1, q2, q3, q4⟩ := cells_five hO2'
                        have qf := fun j => hO2'.frozenAt j
                        have HKX := Lib.hid hKX
                        have HPX := Lib.hid hPX
                        have HBX := Lib.hid (hBX.setCell (p := ⟨W3.heap.size, 4, none⟩) (by have := HB3.out.size; simpa using this) s1.v)
                        have HO4 := Lib.hid hO2'
                        have HC4 := Lib.hid hC2
                        have HS4 := Lib.hid hS2
                        clear own1 grow1 hSY hcs hPX hCX hOX hKX hBX hP2 hC2 hO2' hS2 hPY hOY hKY hBY c0 c1 c2 c3 c4 f0 f1 f2 f3 f4 f5 f6
                        go_wp2_with fail
                        have HRP : Hid (Rp (setFive (X1.setCell ⟨W3.heap.size, 4, none⟩ s1.v) gp (rpre.length * 5) (.int .i64 (r.put s1 2).no) (.int .i64 (r.put s1 2).kind) (r.put s1 2).h.v (r.put s1 2).f.v (r.put s1 2).l.v) w.heap.size ⟨some ⟨gp, 0, none⟩, rpre.length + 1, pc⟩ (pre ++ [addPart p (⟨a0, a1, a2, a3, a4, a5, a6⟩ : Frag) 2]) 2) :=
                          Rp.added (w := w2) HLP.out hf1 hf3 HPRE2.out HCUR2.out (by decide) (⟨a0, a1, a2, a3, a4, a5, a6⟩ : Frag) (s := s1) (own_five_other HS4.out HC4.out (by decide) _ _ _ _ _ _)
                            ((HKX.out.kf ((KF.refl X1).setCell HPX.out (by decide) _)).kf ((KF.refl _).five HC4.out _ _ _ _ _ _)) (own_five HO4.out (r.put s1 2))
                        have HB5 := Lib.hid (Below.five HBX.out hgw (rpre.length * 5) (.int .i64 (r.put s1 2).no) (.int .i64 (r.put s1 2).kind) (r.put s1 2).h.v (r.put s1 2).f.v (r.put s1 2).l.v)
                        go_roundw
                        case rel => exact ⟨k + 1, n + 1, k + 1, 2, ⟨some ⟨gp, 0, none⟩, rpre.length + 1, pc⟩, _, by go_num, by go_num, by go_num, rfl, rfl, by omega, by omega, by omega, HN, HRP, HB5⟩
                        case measure => simp [intOf]; omega
                · have HE : Hid (parseP s.data.toList = ([], n + 1, 1)) := HI.out.wrong HC.out (by rw [← mid_list, HT.out]; rw [if_neg hP, hkd, if_neg (by decide), partOf_no hno]; rfl)
                  have NUM := Lib.hid (numbers_no hno)
                  clear hno HC
                  go_wp2_with fail
                  all_goals
                    refine (NUM.out _ _ w1 (by first | exact HX1.out.shift | (rw [ys_nil (by omega : ys.length = 0)]; exact RowAt.nil _ _)) HY.out hyl).mono ?_
                    rintro e w2 ⟨v2, rfl, hb2⟩
                    have HB2 := Lib.hid (bt HB1.out hb2)
                    go_wp2_with fail
                    all_goals (go_ret3; exact parse_bad HE.out HB2.out)
              · have q0 : (x.toList == [104, 101, 97, 100]) = false := word_no hW0
                have q1 : (x.toList == [102, 108, 111, 119]) = false := word_no hW1
                have q2 : (x.toList == [102, 108, 111, 97, 116]) = false := word_no hW2
                have hkd : kindOf x.data.toList = -1 := by unfold kindOf; rw [if_neg hW0, if_neg hW1, if_neg hW2]
                have HE : Hid (parseP s.data.toList = ([], n + 1, 1)) := HI.out.wrong HC.out (by rw [← mid_list, HT.out, if_neg hP, hkd, if_pos (by decide)]; rfl)
                have NUM := Lib.hid fun A c W h => rnumbers_any A c 7 ys W h (fun y hy => by have := HY.out y hy; omega) (by omega)
                have hlast : (-1 : Int) < (last : Int) := by omega
                clear HC
                go_wp2_with fail
                all_goals
                  refine (NUM.out _ _ w1 (by first | exact HX1.out.shift | (rw [ys_nil (by omega : ys.length = 0)]; exact RowAt.nil _ _))).mono ?_
                  rintro e w2 ⟨v2, b2, rfl, hb2, _⟩
                  have HB2 := Lib.hid (bt HB1.out hb2)
                  go_wp2_with fail
                  all_goals (go_ret3; exact parse_bad HE.out HB2.out)
      · have hd' : (((s[k]'hlt).toNat : Int) == 10) = false := by
          rw [beq_eq_false_iff_ne]
          intro e
          exact hd (UInt8.toNat_inj.1 (by show _ = 10; omega))
        have hd2 : (((s[k]'hlt).toNat : Int) != 10) = true := by rw [bne, hd']; rfl
        have hne : s.data.toList[k]? ≠ some 10 := by
          rw [hgl]
          intro e
          injection e with e
          exact hd e
        by_cases hend : k + 1 = s.size
        · have hE := Lib.hid (HI.out.endless (by rw [size_list]; exact hend) hne)
          have he : ((k : Int) == (s.size : Int) - 1) = true := by
            rw [beq_iff_eq]; omega
          clear hgl hne hkl
          go_wp2_with fail
          go_ret3
          exact parse_bad hE.out HB.out
        · have hE := Lib.hid (HI.out.next (by rw [size_list]; omega) hne)
          have he : ((k : Int) == (s.size : Int) - 1) = false := by
            rw [beq_eq_false_iff_ne]; omega
          clear hgl hne hkl
          go_wp2_with fail
          go_roundw
          case rel => exact ⟨k + 1, n, frm, last, v, ps, by go_num, rfl, rfl, rfl, rfl, by omega, by omega, by omega, hE, HR, HB⟩
          case measure => simp [intOf]; omega
    · have hlt' : ¬ (k : Int) < (s.size : Int) := by omega
      have hE := Lib.hid (HI.out.done (by rw [size_list]; omega))
      obtain ⟨hv, hp⟩ := HR.out.pages
      have HP := Lib.hid hp
      clear hp
      go_wp2_with fail
      go_ret3
      exact parse_good hE.out hv HP.out HB.out
end Go.Proofs.YtloecpgfohhmlaaDoor
