/-
  gatefoldref29.Write of pages: the text, or that there is none; below the heap's size nothing turns.
-/
import Derived.Test.YtloecpgfohhmlaaDoorPuc
import Derived.Test.YtloecpgfohhmlaaDoorPtb
import Derived.Test.YtloecpgfohhmlaaDoorQtl
import Derived.Deep.RegionHeld3
namespace Go.Proofs.YtloecpgfohhmlaaDoor
open Go.RowKit Go.Proofs.Prn

theorem rline_len (word : Bytes) (l : List Int) (hw : word.length ≤ 10) (hl : l.length ≤ 7) : (rlineB word l).length ≤ 160 := by
  cases h : nearL l with
  | true => rw [rlineB_yes h]; exact line_short word l (near_i64 h) hw hl
  | false => rw [rlineB_no h]; exact Nat.zero_le _
theorem rfrags_len (word : Bytes) (l : List Frag) (hw : word.length ≤ 10) : (rfragsB word l).length ≤ 160 * l.length := by
  cases h : nearF l with
  | true => rw [rfragsB_yes h]; exact frags_short word l (f64_near h) hw
  | false => rw [rfragsB_no h]; exact Nat.zero_le _
theorem page_near_bs (p : Page) : p.near = (nearL p.nums && nearF p.heads && nearF p.flow && nearF p.floats) := rfl
theorem pages_len_near (ps : List Page) (h : nearP ps = true) : (pagesB ps).length ≤ 160 * (ps.length + partsN ps) := by
  induction ps with
  | nil => exact Nat.zero_le _
  | cons p r ih =>
    have hh : p.near = true ∧ nearP r = true := by
      have := h
      simp only [nearP, List.all_cons, Bool.and_eq_true] at this
      exact this
    have h1 := ih hh.2
    have hq := hh.1
    rw [page_near_bs] at hq
    simp only [Bool.and_eq_true] at hq
    have h0 := line_short wPage p.nums (near_i64 hq.1.1.1) (by decide) (by simp [Page.nums])
    have h2 := frags_short wHead p.heads (f64_near hq.1.1.2) (by decide)
    have h3 := frags_short wFlow p.flow (f64_near hq.1.2) (by decide)
    have h4 := frags_short wFloat p.floats (f64_near hq.2) (by decide)
    simp only [pagesB, pageB, List.length_append, List.length_cons, partsN]
    omega
theorem two_row (W : World) (g : Nat) (p : Page) (h : Blk W g 3 #[.int .i64 p.no, .int .i64 p.kind]) : RowAt encI 1 W (some ⟨g, 0, none⟩) p.nums :=
  RowAt.of_blk (l := p.nums) encI_len h

set_option maxHeartbeats 8000000 in
set_option maxRecDepth 100000 in
theorem rwrite_any (A : Option Addr) (c : Nat) (ps : List Page) (w : World) (hA : PagesAt w A ps) (hn : ps.length ≤ 10000) (hp : partsN ps ≤ 10000) :
    Calls Tryd.prog 11 #[.slice A ps.length c] w fun e w' => e = .returned (.tuple #[.string (bs (writeP ps).1), .int .i64 (writeP ps).2]) ∧ Below w.heap.size w w' := by
  obtain ⟨rs, hrl, hrow, hpg⟩ := hA
  have HROW := Lib.hid hrow
  have HPG := Lib.hid hpg
  have HRL := Lib.hid hrl
  clear hrow hpg hrl
  go_enter Tryd.func11, Tryd.ntmps11
  go_wp2_with fail
  go_loopw [4, 5] (fun s i wr => ∃ k : Nat, i = .int .i64 k ∧ s = .string (bs (pagesB (ps.take k))) ∧ k ≤ ps.length ∧ Hid (nearP (ps.take k) = true) ∧ Hid (Below w.heap.size w wr)) (fun _ i _ => ps.length - (intOf i).toNat)
  case atStart => exact ⟨0, rfl, rfl, Nat.zero_le _, by show _ = _; rfl, Below.refl _ _⟩
  case round =>
    obtain ⟨k, rfl, rfl, hk, HN, HB⟩ := hrel
    by_cases hlt : k < ps.length
    · have hx : ps[k]? = some ps[k] := List.getElem?_eq_getElem hlt
      have hpm : ps[k] ∈ ps := List.getElem_mem hlt
      have et : ps.take (k + 1) = ps.take k ++ [ps[k]] := List.take_succ_eq_append_getElem hlt
      have ed : ps = ps.take k ++ ps[k] :: ps.drop (k + 1) := by rw [← List.drop_eq_getElem_cons hlt, List.take_append_drop]
      have hparts : partsN (ps.take k) + (ps[k].heads.length + ps[k].flow.length + ps[k].floats.length) ≤ 10000 := by
        have := congrArg partsN ed
        rw [partsN_append, partsN] at this
        omega
      have hlr : k < rs.length := by rw [HRL.out]; exact hlt
      have hr : rs[k]? = some rs[k] := List.getElem?_eq_getElem hlr
      have hpr := HPG.out k _ _ hr hx
      have hacc : (pagesB (ps.take k)).length ≤ 160 * (10000 + 10000) := by
        have h1 := pages_len_near (ps.take k) HN.out
        rw [List.length_take] at h1
        omega
      generalize ps[k] = p at *
      generalize rs[k] = r at *
      obtain ⟨rno, rkind, ⟨sA, sn, sc⟩, ⟨tA, tn, tc⟩, ⟨uA, un, uc⟩⟩ := r
      obtain ⟨hno, hkind, ⟨e1, q1⟩, ⟨e2, q2⟩, ⟨e3, q3⟩⟩ := hpr
      simp only at hno hkind e1 e2 e3 q1 q2 q3
      subst hno hkind e1 e2 e3
      have HPM := Lib.hid hpm
      obtain ⟨b2, off, rfl, hbl, k0, k1, k2, k3, k4⟩ := (HROW.out.below HB.out).raw hr
      simp only at k0 k1 k2 k3 k4
      have hlt' : (k : Int) < (ps.length : Int) := by omega
      have i0 : (0 : Int) ≤ (k : Int) := by omega
      have CP : Hid (∀ (W : World) (g : Nat), Blk W g 3 #[.int .i64 p.no, .int .i64 p.kind] → Calls Tryd.prog 21 #[.string ⟨#[112, 97, 103, 101]⟩, .slice (some ⟨g, 0, none⟩) 2 2] W fun e w' => e = .returned (.tuple #[.string (bs (rlineB wPage p.nums)), .bool (nearL p.nums)]) ∧ Below W.heap.size W w') :=
        fun W g h => rline_any wPage (some ⟨g, 0, none⟩) 2 p.nums W (two_row W g p h) (by simp [Page.nums]) (by decide)
      have CH : Hid (∀ W : World, Below w.heap.size w W → Calls Tryd.prog 22 #[.string ⟨#[104, 101, 97, 100]⟩, .slice sA p.heads.length sc] W fun e w' => e = .returned (.tuple #[.string (bs (rfragsB wHead p.heads)), .bool (nearF p.heads)]) ∧ Below W.heap.size W w') := fun W h => rparts_any wHead sA sc p.heads W (q1.below h) (by omega) (by decide)
      have CF : Hid (∀ W : World, Below w.heap.size w W → Calls Tryd.prog 22 #[.string ⟨#[102, 108, 111, 119]⟩, .slice tA p.flow.length tc] W fun e w' => e = .returned (.tuple #[.string (bs (rfragsB wFlow p.flow)), .bool (nearF p.flow)]) ∧ Below W.heap.size W w') := fun W h => rparts_any wFlow tA tc p.flow W (q2.below h) (by omega) (by decide)
      have CL : Hid (∀ W : World, Below w.heap.size w W → Calls Tryd.prog 22 #[.string ⟨#[102, 108, 111, 97, 116]⟩, .slice uA p.floats.length uc] W fun e w' => e = .returned (.tuple #[.string (bs (rfragsB wFloat p.floats)), .bool (nearF p.floats)]) ∧ Below W.heap.size W w') := fun W h => rparts_any wFloat uA uc p.floats W (q3.below h) (by omega) (by decide)
      have l0 := rline_len wPage p.nums (by decide) (by simp [Page.nums])
      have l1 := rfrags_len wHead p.heads (by decide)
      have l2 := rfrags_len wFlow p.flow (by decide)
      have l3 := rfrags_len wFloat p.floats (by decide)
      have HNF : Hid ((nearL p.nums && nearF p.heads && nearF p.flow && nearF p.floats) = false → writeP ps = ([], 4)) := fun h => by
        unfold writeP
        rw [if_neg (by rw [near_false ps p HPM.out h]; decide)]
      have HNT : Hid (nearL p.nums = true → nearF p.heads = true → nearF p.flow = true → nearF p.floats = true → nearP (ps.take (k + 1)) = true ∧ pagesB (ps.take (k + 1)) = pagesB (ps.take k) ++ rlineB wPage p.nums ++ rfragsB wHead p.heads ++ rfragsB wFlow p.flow ++ rfragsB wFloat p.floats) := fun h0 h1 h2 h3 => by
        refine ⟨by rw [et, near_snoc, HN.out, page_near_bs, h0, h1, h2, h3]; rfl, ?_⟩
        rw [et, pagesB_append, pagesB_one, rlineB_yes h0, rfragsB_yes h1, rfragsB_yes h2, rfragsB_yes h3]
        simp [pageB]
      clear hx hpm et ed hr q1 q2 q3 HN
      generalize rlineB wPage p.nums = S0 at *
      generalize rfragsB wHead p.heads = S1 at *
      generalize rfragsB wFlow p.flow = S2 at *
      generalize rfragsB wFloat p.floats = S3 at *
      generalize nearL p.nums = B0 at *
      generalize nearF p.heads = B1 at *
      generalize nearF p.flow = B2 at *
      generalize nearF p.floats = B3 at *
      generalize pagesB (ps.take k) = acc at *
      go_wp2_with fail
      have KEEP : Hid (∀ W, Below wr.heap.size wr W → W.cell? ⟨b2, off + k * 5, none⟩ = some (.int .i64 p.no) ∧ W.cell? ⟨b2, off + k * 5 + 1, none⟩ = some (.int .i64 p.kind) ∧ Hid (Below wr.heap.size wr W)) := fun W h =>
        ⟨(h.cell (p := ⟨b2, off + k * 5, none⟩) hbl).trans k0, (h.cell (p := ⟨b2, off + k * 5 + 1, none⟩) hbl).trans k1, h⟩
      have HBW : Hid (∀ o, Below wr.heap.size wr (wr.alloc o).drew) := fun o => bd (bl (Below.refl _ _) o)
      have HBI : Hid (Blk (wr.alloc (.cells #[.int .i64 p.no, .int .i64 p.kind] 3)).drew wr.heap.size 3 #[.int .i64 p.no, .int .i64 p.kind]) := Blk.drew (Blk.new wr _ _)
      go_region_held3 (fun w' => w'.cell? ⟨b2, off + k * 5, none⟩ = some (.int .i64 p.no) ∧ w'.cell? ⟨b2, off + k * 5 + 1, none⟩ = some (.int .i64 p.kind) ∧ Hid (Below wr.heap.size wr w'))
        (first
          | exact KEEP.out _ (bd (Below.refl _ _))
          | exact KEEP.out _ (bt (HBW.out _) hb1)
          | exact KEEP.out _ (HBW.out _))
        ((go_at_call 21; refine (CP.out _ _ HBI.out).mono ?_; rintro e w1 ⟨rfl, hb1⟩))
      have HB1 : Hid (Below wr.heap.size wr w1) := bt (HBW.out _) hb1
      have HK2 : Hid (∀ W, Below wr.heap.size wr W → W.cell? ⟨b2, off + k * 5 + 2, none⟩ = some (.slice sA p.heads.length sc)) := fun W h => (h.cell (p := ⟨b2, off + k * 5 + 2, none⟩) hbl).trans k2
      have HK3 : Hid (∀ W, Below wr.heap.size wr W → W.cell? ⟨b2, off + k * 5 + 3, none⟩ = some (.slice tA p.flow.length tc)) := fun W h => (h.cell (p := ⟨b2, off + k * 5 + 3, none⟩) hbl).trans k3
      have HK4 : Hid (∀ W, Below wr.heap.size wr W → W.cell? ⟨b2, off + k * 5 + 4, none⟩ = some (.slice uA p.floats.length uc)) := fun W h => (h.cell (p := ⟨b2, off + k * 5 + 4, none⟩) hbl).trans k4
      clear hb1 HBW HBI KEEP k0 k1 k2 k3 k4 CP
      have x2 := HK2.out _ HB1.out
      go_wp2_with fail
      refine (CH.out w1 (bt HB.out HB1.out)).mono ?_
      rintro e w2 ⟨rfl, hb2⟩
      have HB2 := Lib.hid (bt HB1.out hb2)
      have x3 := HK3.out _ HB2.out
      clear hb2 HB1 x2 HK2 CH
      go_wp2_with fail
      refine (CF.out w2 (bt HB.out HB2.out)).mono ?_
      rintro e w3 ⟨rfl, hb3⟩
      have HB3 := Lib.hid (bt HB2.out hb3)
      have x4 := HK4.out _ HB3.out
      clear hb3 HB2 x3 HK3 CF
      go_wp2_with fail
      refine (CL.out w3 (bt HB.out HB3.out)).mono ?_
      rintro e w4 ⟨rfl, hb4⟩
      have HB4 := Lib.hid (bt HB.out (bt HB3.out hb4))
      clear hb4 HB3 x4 HK4 CL HB
      cases B0 with
      | false =>
        have HZ := Lib.hid (HNF.out rfl)
        go_wp2_with fail
        go_ret2
        exact ⟨by rw [HZ.out]; rfl, HB4.out⟩
      | true =>
        cases B1 with
        | false =>
          have HZ := Lib.hid (HNF.out rfl)
          go_wp2_with fail
          go_ret2
          exact ⟨by rw [HZ.out]; rfl, HB4.out⟩
        | true =>
          cases B2 with
          | false =>
            have HZ := Lib.hid (HNF.out rfl)
            go_wp2_with fail
            go_ret2
            exact ⟨by rw [HZ.out]; rfl, HB4.out⟩
          | true =>
            cases B3 with
            | false =>
              have HZ := Lib.hid (HNF.out rfl)
              go_wp2_with fail
              go_ret2
              exact ⟨by rw [HZ.out]; rfl, HB4.out⟩
            | true =>
              have HZ := Lib.hid (HNT.out rfl rfl rfl rfl)
              clear HNT HNF
              have a1 : ∀ W, (binOp .add 9 (.string (bs acc)) (.string (bs S0))).run Tryd.prog W = .ok (.string (bs (acc ++ S0))) W := fun W => add_bs _ _ (by omega) W
              have o1 : ∀ W, (Op.stringOp .add (bs acc) (bs S0)).run Tryd.prog W = .ok (.string (bs (acc ++ S0))) W := fun W => a1 W
              have a2 : ∀ W, (binOp .add 9 (.string (bs (acc ++ S0))) (.string (bs S1))).run Tryd.prog W = .ok (.string (bs (acc ++ S0 ++ S1))) W := fun W => add_bs _ _ (by simp only [List.length_append]; omega) W
              have o2 : ∀ W, (Op.stringOp .add (bs (acc ++ S0)) (bs S1)).run Tryd.prog W = .ok (.string (bs (acc ++ S0 ++ S1))) W := fun W => a2 W
              have a3 : ∀ W, (binOp .add 9 (.string (bs (acc ++ S0 ++ S1))) (.string (bs S2))).run Tryd.prog W = .ok (.string (bs (acc ++ S0 ++ S1 ++ S2))) W := fun W => add_bs _ _ (by simp only [List.length_append]; omega) W
              have o3 : ∀ W, (Op.stringOp .add (bs (acc ++ S0 ++ S1)) (bs S2)).run Tryd.prog W = .ok (.string (bs (acc ++ S0 ++ S1 ++ S2))) W := fun W => a3 W
              have a4 : ∀ W, (binOp .add 9 (.string (bs (acc ++ S0 ++ S1 ++ S2))) (.string (bs S3))).run Tryd.prog W = .ok (.string (bs (acc ++ S0 ++ S1 ++ S2 ++ S3))) W := fun W => add_bs _ _ (by simp only [List.length_append]; omega) W
              have o4 : ∀ W, (Op.stringOp .add (bs (acc ++ S0 ++ S1 ++ S2)) (bs S3)).run Tryd.prog W = .ok (.string (bs (acc ++ S0 ++ S1 ++ S2 ++ S3))) W := fun W => a4 W
              simp only [List.append_assoc] at a1 o1 a2 o2 a3 o3 a4 o4
              go_wp2_with fail
              go_roundw
              case rel => exact ⟨k + 1, by go_num, by rw [HZ.out.2]; simp, by omega, HZ.out.1, HB4.out⟩
              case measure => simp [intOf]; omega
    · have hlt' : ¬ (k : Int) < (ps.length : Int) := by omega
      have e : ps.take k = ps := List.take_of_length_le (by omega)
      have HE : Hid (writeP ps = (pagesB ps, 0) ∧ pagesB (ps.take k) = pagesB ps) := by
        have hn := HN.out
        rw [e] at hn
        refine ⟨?_, by rw [e]⟩
        unfold writeP
        rw [if_pos hn]
      clear e
      go_wp2_with fail
      go_ret2
      exact ⟨by rw [HE.out.1, HE.out.2]; rfl, HB.out⟩
end Go.Proofs.YtloecpgfohhmlaaDoor
