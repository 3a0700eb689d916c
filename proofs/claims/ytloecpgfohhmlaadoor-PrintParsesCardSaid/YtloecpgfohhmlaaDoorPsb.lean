/-
  gatefoldref29.Same tells whether two rows of pages are one; below the heap's size nothing turns.
-/
import Derived.Test.YtloecpgfohhmlaaDoorPsa
import Derived.Test.YtloecpgfohhmlaaDoorPwe
import Derived.Test.YtloecpgfohhmlaaDoorQtl
namespace Go.Proofs.YtloecpgfohhmlaaDoor
open Go.RowKit Go.Proofs.Prn

theorem page_differ {p q : Page} (h : p ≠ q) : p.no ≠ q.no ∨ (p.no = q.no ∧ p.kind ≠ q.kind) ∨ (p.no = q.no ∧ p.kind = q.kind ∧ p.heads ≠ q.heads) ∨ (p.no = q.no ∧ p.kind = q.kind ∧ p.heads = q.heads ∧ p.flow ≠ q.flow) ∨
    (p.no = q.no ∧ p.kind = q.kind ∧ p.heads = q.heads ∧ p.flow = q.flow ∧ p.floats ≠ q.floats) := by
  obtain ⟨a, b, c, d, e⟩ := p
  obtain ⟨a', b', c', d', e'⟩ := q
  simp only [ne_eq, Page.mk.injEq] at *
  by_cases h1 : a = a'
  · by_cases h2 : b = b'
    · by_cases h3 : c = c'
      · by_cases h4 : d = d'
        · exact .inr (.inr (.inr (.inr ⟨h1, h2, h3, h4, fun h5 => h ⟨h1, h2, h3, h4, h5⟩⟩)))
        · exact .inr (.inr (.inr (.inl ⟨h1, h2, h3, h4⟩)))
      · exact .inr (.inr (.inl ⟨h1, h2, h3⟩))
    · exact .inr (.inl ⟨h1, h2⟩)
  · exact .inl h1

/-- Two pages' three calls of frags, in whatever later world. -/
theorem three_calls {w : World} {A B : Sl} {l m : List Frag} (hA : SlAt w A l) (hB : SlAt w B m) (hn : l.length ≤ 1000000) (x : Bool) (hx : sameL l m = x) (p : From w) :
    Calls Tryd.prog 23 #[A.v, B.v] p.W fun e w' => e = .returned (.bool x) ∧ Below p.W.heap.size p.W w' := by
  obtain ⟨a, n, c⟩ := A
  obtain ⟨b, k, d⟩ := B
  obtain ⟨hn1, hr1⟩ := hA
  obtain ⟨hn2, hr2⟩ := hB
  simp only at hn1 hn2 hr1 hr2
  subst hn1 hn2
  have := rfrags_any a b c d l m p.W (hr1.below p.below) (hr2.below p.below) (by omega)
  rw [hx] at this
  exact this
theorem same_self {α : Type} [DecidableEq α] (l : List α) : sameL l l = true := by simp [sameL]
theorem same_ne {α : Type} [DecidableEq α] {l m : List α} (h : l ≠ m) : sameL l m = false := by simp [sameL, h]

def PgSmall (p : Page) : Prop := p.heads.length ≤ 1000000 ∧ p.flow.length ≤ 1000000 ∧ p.floats.length ≤ 1000000

set_option maxHeartbeats 8000000 in
set_option maxRecDepth 100000 in
theorem rsame_any (A B : Option Addr) (c d : Nat) (xs ys : List Page) (w : World) (hA : PagesAt w A xs) (hB : PagesAt w B ys) (hn : xs.length ≤ 9223372036854775807) (hsm : ∀ p ∈ xs, PgSmall p) :
    Calls Tryd.prog 12 #[.slice A xs.length c, .slice B ys.length d] w fun e w' => e = .returned (.bool (sameL xs ys)) ∧ Below w.heap.size w w' := by
  obtain ⟨rs, hl1, hr1, hp1⟩ := hA
  obtain ⟨ss, hl2, hr2, hp2⟩ := hB
  have HR1 := Lib.hid hr1
  have HR2 := Lib.hid hr2
  have HP1 := Lib.hid hp1
  have HP2 := Lib.hid hp2
  have HL1 := Lib.hid hl1
  have HL2 := Lib.hid hl2
  have HSM := Lib.hid hsm
  clear hr1 hr2 hp1 hp2 hl1 hl2 hsm
  by_cases hl : xs.length = ys.length
  · have HL := Lib.hid hl
    have hl' : (((xs.length : Int)) != (ys.length : Int)) = false := by simp [hl]
    clear hl
    go_enter Tryd.func12, Tryd.ntmps12
    go_wp2_with fail
    go_loopw [5] (fun i wr => ∃ (k : Nat), k ≤ xs.length ∧ i = .int .i64 k ∧ Below w.heap.size w wr ∧ Hid (xs.take k = ys.take k))
      (fun i _ => xs.length - (intOf i).toNat)
    case atStart => exact ⟨0, Nat.zero_le _, rfl, Below.refl _ _, rfl⟩
    case round =>
      obtain ⟨k, hk, rfl, hnx, HT⟩ := hrel
      by_cases hlt : k < xs.length
      · have hlt2 : k < ys.length := by have := HL.out; omega
        have hx : xs[k]? = some xs[k] := List.getElem?_eq_getElem hlt
        have hy : ys[k]? = some ys[k] := List.getElem?_eq_getElem hlt2
        have hkr : k < rs.length := by rw [HL1.out]; exact hlt
        have hks : k < ss.length := by rw [HL2.out]; exact hlt2
        have hrr : rs[k]? = some rs[k] := List.getElem?_eq_getElem hkr
        have hss : ss[k]? = some ss[k] := List.getElem?_eq_getElem hks
        have hq1 := (HP1.out k _ _ hrr hx).below hnx
        have hq2 := (HP2.out k _ _ hss hy).below hnx
        have hsm := HSM.out xs[k] (List.getElem_mem hlt)
        generalize xs[k] = p at *
        generalize ys[k] = q at *
        generalize rs[k] = r at *
        generalize ss[k] = s at *
        obtain ⟨b1, o1, rfl, hb1, c0, c1, c2, c3, c4⟩ := (HR1.out.below hnx).raw hrr
        obtain ⟨b2, o2, rfl, hb2, d0, d1, d2, d3, d4⟩ := (HR2.out.below hnx).raw hss
        rw [hq1.1] at c0
        rw [hq1.2.1] at c1
        rw [hq2.1] at d0
        rw [hq2.2.1] at d1
        have c0' := From.cell c0
        have c1' := From.cell c1
        have c2' := From.cell c2
        have c3' := From.cell c3
        have c4' := From.cell c4
        have d0' := From.cell d0
        have d1' := From.cell d1
        have d2' := From.cell d2
        have d3' := From.cell d3
        have d4' := From.cell d4
        have th := fun x hx => three_calls hq1.2.2.1 hq2.2.2.1 hsm.1 x hx
        have tf := fun x hx => three_calls hq1.2.2.2.1 hq2.2.2.2.1 hsm.2.1 x hx
        have tl := fun x hx => three_calls hq1.2.2.2.2 hq2.2.2.2.2 hsm.2.2 x hx
        have HX := Lib.hid hx
        have HY := Lib.hid hy
        have HB := Lib.hid hnx
        have i1 : (0 : Int) ≤ (k : Int) := by omega
        have i2 : (k : Int) < (xs.length : Int) := by omega
        have i3 : (k : Int) < (ys.length : Int) := by omega
        clear hx hy hrr hss hq1 hq2 hsm c0 c1 c2 c3 c4 d0 d1 d2 d3 d4 hnx
        by_cases he : p = q
        · subst he
          have TH := Lib.hid (th true (same_self _))
          have TF := Lib.hid (tf true (same_self _))
          have TL := Lib.hid (tl true (same_self _))
          have E := Lib.hid (same_take HT.out HX.out HY.out)
          have e0 : (p.no != p.no) = false := by simp
          have e1 : (p.kind != p.kind) = false := by simp
          clear th tf tl
          go_wp2_with fail
          refine wp_region_from (by kernel_rfl) (by kernel_rfl) ?_
          simp only [List.append_eq, List.cons_append, List.nil_append]
          repeat (go_big_quiet_step (first | (go_at_call 23; first | (with_reducible exact calls_from (TH.out _)) | (with_reducible exact calls_from (TF.out _)) | (with_reducible exact calls_from (TL.out _)))))
          refine wpQuiet_nil ?_
          intro _ hw'
          obtain ⟨pw, rfl⟩ := hw'
          have HB2 := Lib.hid (HB.out.trans (pw.below.mono (by have := HB.out.size; omega)))
          clear c0' c1' c2' c3' c4' d0' d1' d2' d3' d4' TH TF TL
          generalize pw.W = W2 at *
          go_wp2_with fail
          go_roundw
          case rel => exact ⟨k + 1, by omega, by go_num, HB2.out, E.out⟩
          case measure => simp [intOf]; omega
        · have E := Lib.hid (same_no HX.out HY.out he)
          have hd := page_differ he
          clear he
          have ret : ∀ (a' : Act) (W' : World), True := fun _ _ => trivial
          clear ret
          rcases hd with e0 | ⟨e0, e1⟩ | ⟨e0, e1, e2⟩ | ⟨e0, e1, e2, e3⟩ | ⟨e0, e1, e2, e3, e4⟩
          · have n0 : (p.no != q.no) = true := by simpa using e0
            clear e0
            clear th tf tl
            go_wp2_with fail
            refine wp_region_from (by kernel_rfl) (by kernel_rfl) ?_
            simp only [List.append_eq, List.cons_append, List.nil_append]
            repeat (go_big_quiet_step (fail))
            refine wpQuiet_nil ?_
            intro _ hw'
            obtain ⟨pw, rfl⟩ := hw'
            have HB2 := Lib.hid (HB.out.trans (pw.below.mono (by have := HB.out.size; omega)))
            clear c0' c1' c2' c3' c4' d0' d1' d2' d3' d4'
            generalize pw.W = W2 at *
            go_wp2_with fail
            go_ret
            exact ⟨by rw [E.out]; rfl, HB2.out⟩
          · have n0 : (p.no != q.no) = false := by simpa using e0
            have n1 : (p.kind != q.kind) = true := by simpa using e1
            clear e0 e1
            clear th tf tl
            go_wp2_with fail
            refine wp_region_from (by kernel_rfl) (by kernel_rfl) ?_
            simp only [List.append_eq, List.cons_append, List.nil_append]
            repeat (go_big_quiet_step (fail))
            refine wpQuiet_nil ?_
            intro _ hw'
            obtain ⟨pw, rfl⟩ := hw'
            have HB2 := Lib.hid (HB.out.trans (pw.below.mono (by have := HB.out.size; omega)))
            clear c0' c1' c2' c3' c4' d0' d1' d2' d3' d4'
            generalize pw.W = W2 at *
            go_wp2_with fail
            go_ret
            exact ⟨by rw [E.out]; rfl, HB2.out⟩
          · have n0 : (p.no != q.no) = false := by simpa using e0
            have n1 : (p.kind != q.kind) = false := by simpa using e1
            have TH := Lib.hid (th false (same_ne e2))
            clear e0 e1 e2
            clear th tf tl
            go_wp2_with fail
            refine wp_region_from (by kernel_rfl) (by kernel_rfl) ?_
            simp only [List.append_eq, List.cons_append, List.nil_append]
            repeat (go_big_quiet_step (first | (go_at_call 23; first | (with_reducible exact calls_from (TH.out _)))))
            refine wpQuiet_nil ?_
            intro _ hw'
            obtain ⟨pw, rfl⟩ := hw'
            have HB2 := Lib.hid (HB.out.trans (pw.below.mono (by have := HB.out.size; omega)))
            clear c0' c1' c2' c3' c4' d0' d1' d2' d3' d4'
            generalize pw.W = W2 at *
            go_wp2_with fail
            go_ret
            exact ⟨by rw [E.out]; rfl, HB2.out⟩
          · have n0 : (p.no != q.no) = false := by simpa using e0
            have n1 : (p.kind != q.kind) = false := by simpa using e1
            have TH := Lib.hid (th true (by rw [e2]; exact same_self _))
            have TF := Lib.hid (tf false (same_ne e3))
            clear e0 e1 e2 e3
            clear th tf tl
            go_wp2_with fail
            refine wp_region_from (by kernel_rfl) (by kernel_rfl) ?_
            simp only [List.append_eq, List.cons_append, List.nil_append]
            repeat (go_big_quiet_step (first | (go_at_call 23; first | (with_reducible exact calls_from (TH.out _)) | (with_reducible exact calls_from (TF.out _)))))
            refine wpQuiet_nil ?_
            intro _ hw'
            obtain ⟨pw, rfl⟩ := hw'
            have HB2 := Lib.hid (HB.out.trans (pw.below.mono (by have := HB.out.size; omega)))
            clear c0' c1' c2' c3' c4' d0' d1' d2' d3' d4'
            generalize pw.W = W2 at *
            go_wp2_with fail
            go_ret
            exact ⟨by rw [E.out]; rfl, HB2.out⟩
          · have n0 : (p.no != q.no) = false := by simpa using e0
            have n1 : (p.kind != q.kind) = false := by simpa using e1
            have TH := Lib.hid (th true (by rw [e2]; exact same_self _))
            have TF := Lib.hid (tf true (by rw [e3]; exact same_self _))
            have TL := Lib.hid (tl false (same_ne e4))
            clear e0 e1 e2 e3 e4
            clear th tf tl
            go_wp2_with fail
            refine wp_region_from (by kernel_rfl) (by kernel_rfl) ?_
            simp only [List.append_eq, List.cons_append, List.nil_append]
            repeat (go_big_quiet_step (first | (go_at_call 23; first | (with_reducible exact calls_from (TH.out _)) | (with_reducible exact calls_from (TF.out _)) | (with_reducible exact calls_from (TL.out _)))))
            refine wpQuiet_nil ?_
            intro _ hw'
            obtain ⟨pw, rfl⟩ := hw'
            have HB2 := Lib.hid (HB.out.trans (pw.below.mono (by have := HB.out.size; omega)))
            clear c0' c1' c2' c3' c4' d0' d1' d2' d3' d4'
            generalize pw.W = W2 at *
            go_wp2_with fail
            go_ret
            exact ⟨by rw [E.out]; rfl, HB2.out⟩
      · have e : k = xs.length := by omega
        have HK := Lib.hid e
        clear e
        go_wp2_with fail
        go_ret
        refine ⟨?_, hnx⟩
        have h := HT.out
        rw [HK.out, List.take_length, HL.out, List.take_length] at h
        rw [show sameL xs ys = true by unfold sameL; simpa using h]
        rfl
  · have hl' : (((xs.length : Int)) != (ys.length : Int)) = true := by simp; omega
    have E := Lib.hid (same_len hl)
    clear hl
    go_enter Tryd.func12, Tryd.ntmps12
    go_wp2_with fail
    go_ret
    exact ⟨by rw [E.out]; rfl, Below.refl _ _⟩
end Go.Proofs.YtloecpgfohhmlaaDoor
