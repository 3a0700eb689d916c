/-
  print.Write of at most 10000 pages, 10000 parts: the text, or that there is none; below the heap's size nothing turns.
-/
import Derived.Test.YtloecpgfohhmlaaDoorPwd
import Derived.Test.YtloecpgfohhmlaaDoorPng
namespace Go.Proofs.YtloecpgfohhmlaaDoor
open Go.RowKit Go.Proofs.Prn

structure P64 (p : Page) : Prop where
  nums : ∀ n ∈ p.nums, I64 n
  part : ∀ k, ∀ f ∈ pget p k, F64 f
def partsN : List Page → Nat
  | [] => 0
  | p :: r => p.heads.length + p.flow.length + p.floats.length + partsN r
theorem partsN_append (a b : List Page) : partsN (a ++ b) = partsN a + partsN b := by
  induction a with
  | nil => simp [partsN]
  | cons p r ih => simp only [List.cons_append, partsN, ih]; omega
/-- A page's text as far as the parts of kinds below k. -/
def pageK (p : Page) : Nat → Bytes
  | 0 => lineB wPage p.nums
  | k + 1 => pageK p k ++ fragsB (wordOf k) (pget p k)
def nearK (p : Page) : Nat → Bool
  | 0 => nearL p.nums
  | k + 1 => nearK p k && nearF (pget p k)
theorem pageK_all (p : Page) : pageK p 3 = pageB p := by simp [pageK, pageB, wordOf, pget]
theorem nearK_all (p : Page) : nearK p 3 = p.near := by simp [nearK, Page.near, pget]
theorem page_short (p : Page) (h : P64 p) (k : Nat) (hk : k ≤ 3) : (pageK p k).length ≤ 160 * (1 + (p.heads.length + p.flow.length + p.floats.length)) := by
  have h0 := line_short wPage p.nums h.nums (by decide) (by simp [Page.nums])
  have h1 := frags_short (wordOf 0) (pget p 0) (h.part 0) (by decide)
  have h2 := frags_short (wordOf 1) (pget p 1) (h.part 1) (by decide)
  have h3 := frags_short (wordOf 2) (pget p 2) (h.part 2) (by decide)
  simp only [pget] at h1 h2 h3
  match k, hk with
  | 0, _ => simp only [pageK]; omega
  | 1, _ => simp only [pageK, List.length_append, pget]; omega
  | 2, _ => simp only [pageK, List.length_append, pget]; omega
  | 3, _ => simp only [pageK, List.length_append, pget]; omega
theorem pages_short (ps : List Page) (h : ∀ p ∈ ps, P64 p) : (pagesB ps).length ≤ 160 * (ps.length + partsN ps) := by
  induction ps with
  | nil => exact Nat.zero_le _
  | cons p r ih =>
    have h1 := ih fun q hq => h q (by simp [hq])
    have h2 := page_short p (h p (by simp)) 3 (by omega)
    rw [pageK_all] at h2
    simp only [pagesB, List.length_append, List.length_cons, partsN]; omega
theorem near_false (ps : List Page) (p : Page) (h : p ∈ ps) (hp : p.near = false) : nearP ps = false := by
  cases hn : nearP ps with
  | false => rfl
  | true => have := List.all_eq_true.1 hn p h; rw [hp] at this; cases this
theorem pget_le (p : Page) (k : Nat) : (pget p k).length ≤ p.heads.length + p.flow.length + p.floats.length := by
  match k with
  | 0 => simp only [pget]; omega
  | 1 => simp only [pget]; omega
  | k + 2 => simp only [pget]; omega

theorem word_len (k : Nat) : (wordOf k).length ≤ 10 := by
  match k with
  | 0 => decide
  | 1 => decide
  | k + 2 => show wFloat.length ≤ 10; decide
theorem idxw (k : Nat) (hk : k < 3) (w : World) : (Instr.index 48 vWords (.int .i64 k)).run Tryd.prog w = .ok (.string (bs (wordOf k))) w := by
  have h0 : (Instr.index 48 vWords (.int .i64 0)).run Tryd.prog w = .ok (.string (bs (wordOf 0))) w := by kernel_rfl
  have h1 : (Instr.index 48 vWords (.int .i64 1)).run Tryd.prog w = .ok (.string (bs (wordOf 1))) w := by kernel_rfl
  have h2 : (Instr.index 48 vWords (.int .i64 2)).run Tryd.prog w = .ok (.string (bs (wordOf 2))) w := by kernel_rfl
  obtain rfl | rfl | rfl : k = 0 ∨ k = 1 ∨ k = 2 := by omega
  · exact h0
  · exact h1
  · exact h2
theorem idxp (b : Nat) (k : Nat) (hk : k < 3) (w : World) : (Instr.index 52 (.agg #[.pointer (some ⟨b, 2, none⟩), .pointer (some ⟨b, 3, none⟩), .pointer (some ⟨b, 4, none⟩)]) (.int .i64 k)).run Tryd.prog w = .ok (.pointer (some ⟨b, 2 + k, none⟩)) w := by
  have h0 : (Instr.index 52 (.agg #[.pointer (some ⟨b, 2, none⟩), .pointer (some ⟨b, 3, none⟩), .pointer (some ⟨b, 4, none⟩)]) (.int .i64 0)).run Tryd.prog w = .ok (.pointer (some ⟨b, 2, none⟩)) w := by kernel_rfl
  have h1 : (Instr.index 52 (.agg #[.pointer (some ⟨b, 2, none⟩), .pointer (some ⟨b, 3, none⟩), .pointer (some ⟨b, 4, none⟩)]) (.int .i64 1)).run Tryd.prog w = .ok (.pointer (some ⟨b, 3, none⟩)) w := by kernel_rfl
  have h2 : (Instr.index 52 (.agg #[.pointer (some ⟨b, 2, none⟩), .pointer (some ⟨b, 3, none⟩), .pointer (some ⟨b, 4, none⟩)]) (.int .i64 2)).run Tryd.prog w = .ok (.pointer (some ⟨b, 4, none⟩)) w := by kernel_rfl
  obtain rfl | rfl | rfl : k = 0 ∨ k = 1 ∨ k = 2 := by omega
  · exact h0
  · exact h1
  · exact h2
theorem RowAt.raw {w : World} {A : Option Addr} {xs : List Raw} {i : Nat} {r : Raw} (h : RowAt encR 5 w A xs) (hx : xs[i]? = some r) :
    ∃ b off, A = some ⟨b, off, none⟩ ∧ b < w.heap.size ∧ w.cell? ⟨b, off + i * 5, none⟩ = some (.int .i64 r.no) ∧ w.cell? ⟨b, off + i * 5 + 1, none⟩ = some (.int .i64 r.kind) ∧ w.cell? ⟨b, off + i * 5 + 2, none⟩ = some r.h.v ∧
      w.cell? ⟨b, off + i * 5 + 3, none⟩ = some r.f.v ∧ w.cell? ⟨b, off + i * 5 + 4, none⟩ = some r.l.v := by
  obtain ⟨b, off, e, hb, hc⟩ := h i r hx
  exact ⟨b, off, e, hb, hc 0 _ rfl, hc 1 _ rfl, hc 2 _ rfl, hc 3 _ rfl, hc 4 _ rfl⟩

set_option maxHeartbeats 8000000 in
set_option maxRecDepth 100000 in
theorem write_pages (A : Option Addr) (c : Nat) (ps : List Page) (w : World) (hA : PagesAt w A ps) (hn : ps.length ≤ 10000) (hp : partsN ps ≤ 10000) (h64 : ∀ p ∈ ps, P64 p) (hT : Tab w) :
    Calls Tryd.prog 10 #[.slice A ps.length c] w fun e w' => e = .returned (.tuple #[.string (bs (writeP ps).1), .int .i64 (writeP ps).2]) ∧ Below w.heap.size w w' := by
  have HT := Lib.hid hT
  have H64 := Lib.hid h64
  obtain ⟨rs, hrl, hrow, hpg⟩ := hA
  have HROW := Lib.hid hrow
  have HPG := Lib.hid hpg
  have HRL := Lib.hid hrl
  clear hT h64 hrow hpg hrl
  go_enter Tryd.func10, Tryd.ntmps10
  go_wp2_with fail
  have hw0 : Wk w w.heap.size [] (w.alloc (.cells #[.pointer none, .slice none 0 0] 46)) := ⟨.inl ⟨Nat.le_refl _, .slice none 0 0, heap_alloc_new w _, World.ownsRow_nil _ _ _ _, by simp [Value.ownBlock]⟩, bl (Below.refl _ _) _⟩
  have HW0 := Lib.hid hw0
  clear hw0
  go_loopw [12] (fun i wr => ∃ k : Nat, i = .int .i64 k ∧ k ≤ ps.length ∧ Hid (nearP (ps.take k) = true) ∧ Hid (Wk w w.heap.size (pagesB (ps.take k)) wr)) (fun i _ => ps.length - (intOf i).toNat)
  case atStart => exact ⟨0, rfl, Nat.zero_le _, by show _ = _; rfl, by show Wk _ _ _ _; simpa [pagesB] using HW0.out⟩
  case round =>
    obtain ⟨k, rfl, hk, HN, HWk⟩ := hrel
    by_cases hlt : k < ps.length
    · have hx : ps[k]? = some ps[k] := List.getElem?_eq_getElem hlt
      have hpm : ps[k] ∈ ps := List.getElem_mem hlt
      have et : ps.take (k + 1) = ps.take k ++ [ps[k]] := List.take_succ_eq_append_getElem hlt
      have ed : ps = ps.take k ++ ps[k] :: ps.drop (k + 1) := by rw [← List.drop_eq_getElem_cons hlt, List.take_append_drop]
      have hparts : partsN (ps.take k) + (ps[k].heads.length + ps[k].flow.length + ps[k].floats.length) ≤ 10000 := by
        have := congrArg partsN ed
        rw [partsN_append, partsN] at this
        omega
      have hlr : k < rs.length := by rw [HRL.out]; exact hlt
      have hr : rs[k]? = some rs[k] := List.getElem?_eq_getElem hlr
      have hpr := HPG.out k _ _ hr hx
      have H6 := Lib.hid (H64.out _ hpm)
      have hacc : (pagesB (ps.take k)).length ≤ 160 * (10000 + 10000) := by
        have h1 := pages_short (ps.take k) fun q hq => H64.out q (List.mem_of_mem_take hq)
        rw [List.length_take] at h1
        omega
      generalize ps[k] = p at *
      generalize rs[k] = r at *
      have hacc3 : ∀ j, j ≤ 3 → (pagesB (ps.take k) ++ pageK p j).length ≤ 10000000 := fun j hj => by
        have := page_short p H6.out j hj
        rw [List.length_append]
        omega
      have HA3 := Lib.hid hacc3
      obtain ⟨rno, rkind, sh, sf, sl⟩ := r
      have hno := hpr.1
      have hkind := hpr.2.1
      simp only at hno hkind
      subst hno hkind
      have HPR := Lib.hid hpr
      have HPN : Hid (nearP (ps.take (k + 1)) = p.near) := by show _ = _; rw [et, near_snoc, HN.out]; simp
      have HPB : Hid (pagesB (ps.take (k + 1)) = pagesB (ps.take k) ++ pageK p 3) := by show _ = _; rw [et, pagesB_append, pagesB_one, pageK_all]
      have HPM := Lib.hid hpm
      obtain ⟨b2, off, rfl, hbl, k0, k1, k2, k3, k4⟩ := (HROW.out.below HWk.out.below).raw hr
      simp only at k0 k1 k2 k3 k4
      have hlt' : (k : Int) < (ps.length : Int) := by omega
      have hbw := HWk.out.lt
      clear hx hpm et ed hr hpr hacc3
      go_wp2_with fail
      refine gen_world (F := fun W => Blk W wr.heap.size 37 #[.int .i64 p.no, .int .i64 p.kind, sh.v, sf.v, sl.v] ∧ Blk W (wr.heap.size + 1) 3 #[.int .i64 p.no, .int .i64 p.kind] ∧ Wk w w.heap.size (pagesB (ps.take k)) W) (G := fun W => Calls _ _ _ W _) _
        ⟨(Blk.new wr _ _).alloc _, by have := Blk.new (wr.alloc (.cells #[.int .i64 p.no, .int .i64 p.kind, sh.v, sf.v, sl.v] 37)) 3 #[.int .i64 p.no, .int .i64 p.kind]; simpa using this, HWk.out.on (bl (bl (Below.refl _ _) _) _)⟩ ?_
      rintro W ⟨hP1, hI1, hW1⟩
      have HP1 := Lib.hid hP1
      have HI1 := Lib.hid hI1
      have HW1 := Lib.hid hW1
      have hgw : wr.heap.size ≠ w.heap.size := by omega
      have hgw1 : wr.heap.size + 1 ≠ w.heap.size := by omega
      clear hP1 hI1 hW1 HWk k0 k1 k2 k3 k4
      generalize wr.heap.size = g at *
      have cl := line_any w w.heap.size (g + 1) (pagesB (ps.take k)) wPage p.nums 2 W HW1.out HI1.out hgw1 (by simp [Page.nums]) H6.out.nums (by omega) (by decide) HT.out
      refine cl.mono ?_
      rintro e w2 ⟨rfl, h2, s2⟩
      have HW2 := Lib.hid h2
      have HP2 := Lib.hid (s2.blk HP1.out hgw (by decide))
      clear h2 s2 HW1 HP1 HI1 cl
      go_wp2_with fail
      refine (words_any _).mono ?_
      rintro e w3 ⟨rfl, hb3⟩
      have HW3 := Lib.hid (HW2.out.on hb3)
      have HP3 := Lib.hid (HP2.out.keep hb3)
      clear hb3 HW2 HP2
      go_wp2_with fail
      go_loopw [7, 23] (fun o i w4 => ∃ (j : Nat) (ok : Bool), i = .int .i64 j ∧ o = .bool ok ∧ j ≤ 3 ∧ Hid (ok = nearK p j) ∧ Hid (Wk w w.heap.size (pagesB (ps.take k) ++ pageK p j) w4) ∧ Hid (Blk w4 g 37 #[.int .i64 p.no, .int .i64 p.kind, sh.v, sf.v, sl.v])) (fun _ i _ => 3 - (intOf i).toNat)
      case atStart => exact ⟨0, nearL p.nums, rfl, rfl, by omega, by show _ = _; rfl, HW3.out, HP3.out⟩
      case round =>
        obtain ⟨j, ok, rfl, rfl, hj, HO, HWj, HPj⟩ := hrel
        by_cases hj3 : j < 3
        · have hj3' : (j : Int) < 3 := by omega
          have hiw := fun W' => idxw j hj3 W'
          have hip := fun W' => idxp g j hj3 W'
          obtain ⟨s, hs⟩ : ∃ s, s = Raw.get ⟨p.no, p.kind, sh, sf, sl⟩ j := ⟨_, rfl⟩
          have hsl := HPR.out.get j
          rw [← hs] at hsl
          have hcj : (#[Value.int .i64 p.no, .int .i64 p.kind, sh.v, sf.v, sl.v] : Array Value)[2 + j]? = some s.v := by
            rw [hs]
            obtain rfl | rfl | rfl : j = 0 ∨ j = 1 ∨ j = 2 := by omega
            · rfl
            · rfl
            · rfl
          obtain ⟨sA, sn, sc⟩ := s
          obtain ⟨hsn, hsr⟩ := hsl
          simp only at hsn hsr
          subst hsn
          have HROWF := Lib.hid hsr
          have HCJ := Lib.hid hcj
          have HPJ := Lib.hid (H6.out.part j)
          have hlj : (pget p j).length ≤ 100000 := by have := pget_le p j; omega
          have HPK : Hid (pagesB (ps.take k) ++ pageK p (j + 1) = (pagesB (ps.take k) ++ pageK p j) ++ fragsB (wordOf j) (pget p j)) := by show _ = _; rw [pageK, List.append_assoc]
          have HNK : Hid (nearK p (j + 1) = (nearK p j && nearF (pget p j))) := by show _ = _; rfl
          have hacc3 := HA3.out
          clear hsr hcj hs
          go_wp2_with fail
          refine (lists_any g 0 _).mono ?_
          rintro e W3 ⟨rfl, hb4⟩
          have HW3 := Lib.hid (HWj.out.on hb4)
          have HP3 := Lib.hid (HPj.out.keep hb4)
          have hcell : W3.cell? ⟨g, 2 + j, none⟩ = some (.slice sA (pget p j).length sc) := (HP3.out.cell _).trans HCJ.out
          clear hb4 HWj HPj
          cases hb : nearF (pget p j) with
          | true =>
            have cl := frags_any w w.heap.size (pagesB (ps.take k) ++ pageK p j) (wordOf j) (pget p j) sA sc W3 HW3.out HROWF.out hlj HPJ.out (by have := hacc3 j (by omega); omega) (by have := word_len j; omega) HT.out
            rw [hb] at cl
            have HC := Lib.hid cl
            have HO2 : Hid (ok = nearK p (j + 1)) := by show _ = _; rw [HNK.out, hb, HO.out]; simp
            clear cl hb
            go_wp2_with fail
            refine HC.out.mono ?_
            rintro e w4 ⟨rfl, h4, s4⟩
            have HW4 : Hid (Wk w w.heap.size (pagesB (ps.take k) ++ pageK p (j + 1)) w4) := by show Wk _ _ _ _; rw [HPK.out]; exact h4
            have HP4 := Lib.hid (s4.blk HP3.out hgw (by decide))
            clear h4 s4 HW3 HP3 HC HPK
            go_wp2_with fail
            go_roundw
            case rel => exact ⟨j + 1, ok, by go_num, rfl, by omega, HO2.out, HW4.out, HP4.out⟩
            case measure => simp [intOf]; omega
          | false =>
            have cl := frags_any w w.heap.size (pagesB (ps.take k) ++ pageK p j) (wordOf j) (pget p j) sA sc W3 HW3.out HROWF.out hlj HPJ.out (by have := hacc3 j (by omega); omega) (by have := word_len j; omega) HT.out
            rw [hb] at cl
            have HC := Lib.hid cl
            have HO2 : Hid (false = nearK p (j + 1)) := by show _ = _; rw [HNK.out, hb]; simp
            clear cl hb
            go_wp2_with fail
            refine HC.out.mono ?_
            rintro e w4 ⟨rfl, h4, s4⟩
            have HW4 : Hid (Wk w w.heap.size (pagesB (ps.take k) ++ pageK p (j + 1)) w4) := by show Wk _ _ _ _; rw [HPK.out]; exact h4
            have HP4 := Lib.hid (s4.blk HP3.out hgw (by decide))
            clear h4 s4 HW3 HP3 HC HPK
            go_wp2_with fail
            go_roundw
            case rel => exact ⟨j + 1, false, by go_num, rfl, by omega, HO2.out, HW4.out, HP4.out⟩
            case measure => simp [intOf]; omega
        · obtain rfl : j = 3 := by omega
          have hj3' : ¬ (((3 : Nat) : Int) < 3) := by omega
          cases ok with
          | true =>
            have HN2 : Hid (nearP (ps.take (k + 1)) = true) := by show _ = _; rw [HPN.out, ← nearK_all, ← HO.out]
            have HW4 : Hid (Wk w w.heap.size (pagesB (ps.take (k + 1))) wr) := by show Wk _ _ _ _; rw [HPB.out]; exact HWj.out
            clear HWj HPj HPB HPN HO
            go_wp2_with fail
            go_roundw
            case rel => exact ⟨k + 1, by go_num, by omega, HN2.out, HW4.out⟩
            case measure => simp [intOf]; omega
          | false =>
            have HE : Hid (writeP ps = ([], 4)) := by
              show _ = _
              unfold writeP
              rw [if_neg (by rw [near_false ps p HPM.out (by rw [← nearK_all, ← HO.out])]; decide)]
            have HB4 := Lib.hid HWj.out.below
            clear HWj HPj HPB HPN HO
            go_wp2_with fail
            go_ret2
            exact ⟨ret_val (by rw [HE.out]; rfl), HB4.out⟩
    · have hlt' : ¬ (k : Int) < (ps.length : Int) := by omega
      have e : ps.take k = ps := List.take_of_length_le (by omega)
      have HE : Hid (writeP ps = (pagesB ps, 0)) := by
        show _ = _
        have := HN.out
        rw [e] at this
        unfold writeP
        rw [if_pos this]
      have HW2 : Hid (Wk w w.heap.size (pagesB ps) wr) := by show Wk _ _ _ _; have := HWk.out; rw [e] at this; exact this
      clear e HN HWk
      go_wp2_with fail
      refine (string_any w.heap.size w.heap.size (pagesB ps) _ HW2.out.wr HW2.out.below.size).mono ?_
      rintro e w2 ⟨rfl, hb2⟩
      have HB2 := Lib.hid (HW2.out.below.trans hb2)
      clear hb2
      go_wp2_with fail
      go_ret2
      exact ⟨ret_val (by rw [HE.out]; rfl), HB2.out⟩
end Go.Proofs.YtloecpgfohhmlaaDoor
