/-
  gatefoldref25.Frags, One and gatefoldref26.Same tell whether two rows of parts, two pages, two rows of pages are one; below the heap's size nothing turns.
-/
import Derived.Test.YtbbaaaomncegiaaGreatDoorPgm
import Derived.Test.YtbbaaaomncegiaaGreatDoorQtl
import Derived.Deep.QuietTactic
import Derived.BigQuiet
namespace Go.Proofs.YtbbaaaomncegiaaGreatDoor
open Go.RowKit Go.Proofs.Prn

theorem tail_snoc {α : Type} (l : List α) (k : Nat) (x : α) (h : l[k]? = some x) : l.take (k + 1) = l.take k ++ [x] := by
  rw [List.take_add_one, h]; rfl
def sameL {α : Type} [DecidableEq α] (xs ys : List α) : Bool := decide (xs = ys)
theorem pg_no {α : Type} [DecidableEq α] {xs ys : List α} {k : Nat} {x y : α} (hx : xs[k]? = some x) (hy : ys[k]? = some y) (h : x ≠ y) : sameL xs ys = false := by
  unfold sameL
  simp only [decide_eq_false_iff_not]
  intro e
  rw [e, hy] at hx
  cases hx
  exact h rfl
theorem pg_take {α : Type} {xs ys : List α} {k : Nat} {x : α} (h : xs.take k = ys.take k) (hx : xs[k]? = some x) (hy : ys[k]? = some x) : xs.take (k + 1) = ys.take (k + 1) := by
  rw [tail_snoc _ _ _ hx, tail_snoc _ _ _ hy, h]
theorem pg_len {α : Type} [DecidableEq α] {xs ys : List α} (h : xs.length ≠ ys.length) : sameL xs ys = false := by
  unfold sameL
  simp only [decide_eq_false_iff_not]
  intro e
  exact h (by rw [e])
/-- Where two parts differ first. -/
theorem differ {x0 x1 x2 x3 x4 x5 x6 y0 y1 y2 y3 y4 y5 y6 : Int} (h : (⟨x0, x1, x2, x3, x4, x5, x6⟩ : Frag) ≠ ⟨y0, y1, y2, y3, y4, y5, y6⟩) : (x0 == y0) = false ∨ (x0 = y0 ∧ (x1 == y1) = false) ∨ (x0 = y0 ∧ x1 = y1 ∧ (x2 == y2) = false) ∨ (x0 = y0 ∧ x1 = y1 ∧ x2 = y2 ∧ (x3 == y3) = false) ∨ (x0 = y0 ∧ x1 = y1 ∧ x2 = y2 ∧ x3 = y3 ∧ (x4 == y4) = false) ∨ (x0 = y0 ∧ x1 = y1 ∧ x2 = y2 ∧ x3 = y3 ∧ x4 = y4 ∧ (x5 == y5) = false) ∨ (x0 = y0 ∧ x1 = y1 ∧ x2 = y2 ∧ x3 = y3 ∧ x4 = y4 ∧ x5 = y5 ∧ (x6 == y6) = false) := by
  simp only [ne_eq, Frag.mk.injEq, beq_eq_false_iff_ne] at *
  omega
set_option maxHeartbeats 8000000 in
theorem rfrags_any (A B : Option Addr) (c d : Nat) (xs ys : List Frag) (w : World) (hA : RowAt encF 7 w A xs) (hB : RowAt encF 7 w B ys) (hn : xs.length ≤ 9223372036854775807) :
    Calls Tryz.prog 56 #[.slice A xs.length c, .slice B ys.length d] w fun e w' => e = .returned (.bool (sameL xs ys)) ∧ Below w.heap.size w w' := by
  have HA := Lib.hid hA
  have HB := Lib.hid hB
  clear hA hB
  by_cases hl : xs.length = ys.length
  · have HL := Lib.hid hl
    have hl' : (((xs.length : Int)) != (ys.length : Int)) = false := by simp [hl]
    clear hl
    go_enter Tryz.func56, Tryz.ntmps56
    go_wp2
    go_loopw [5] (fun i wr => ∃ (k : Nat), k ≤ xs.length ∧ i = .int .i64 k ∧ Below w.heap.size w wr ∧ Hid (xs.take k = ys.take k))
      (fun i _ => xs.length - (intOf i).toNat)
    case atStart => exact ⟨0, Nat.zero_le _, rfl, Below.refl _ _, rfl⟩
    case round =>
      obtain ⟨k, hk, rfl, hnx, HT⟩ := hrel
      by_cases hlt : k < xs.length
      · have hlt2 : k < ys.length := by have := HL.out; omega
        obtain ⟨⟨x0, x1, x2, x3, x4, x5, x6⟩, hx⟩ : ∃ x, xs[k]? = some x := ⟨_, List.getElem?_eq_getElem hlt⟩
        obtain ⟨⟨y0, y1, y2, y3, y4, y5, y6⟩, hy⟩ : ∃ y, ys[k]? = some y := ⟨_, List.getElem?_eq_getElem hlt2⟩
        obtain ⟨b, off, rfl, hb, c0, c1, c2, c3, c4, c5, c6⟩ := (HA.out.below hnx).frag hx
        obtain ⟨b', off', rfl, hb', d0, d1, d2, d3, d4, d5, d6⟩ := (HB.out.below hnx).frag hy
        simp only at c0 c1 c2 c3 c4 c5 c6 d0 d1 d2 d3 d4 d5 d6
        have HX := Lib.hid hx
        have HY := Lib.hid hy
        clear hx hy
        by_cases he : (⟨x0, x1, x2, x3, x4, x5, x6⟩ : Frag) = ⟨y0, y1, y2, y3, y4, y5, y6⟩
        · simp only [Frag.mk.injEq] at he
          obtain ⟨rfl, rfl, rfl, rfl, rfl, rfl, rfl⟩ := he
          have E := Lib.hid (pg_take HT.out HX.out HY.out)
          go_wp2_with fail
          go_quiet (fail)
          all_goals (go_wp2_with fail)
          all_goals go_roundw
          all_goals first
            | exact ⟨k + 1, by omega, by go_num, bdn hnx _, E.out⟩
            | (simp [intOf]; omega)
        · have E := Lib.hid (pg_no HX.out HY.out he)
          have hd := differ he
          clear he
          rcases hd with e0 | ⟨rfl, e0⟩ | ⟨rfl, rfl, e0⟩ | ⟨rfl, rfl, rfl, e0⟩ | ⟨rfl, rfl, rfl, rfl, e0⟩ | ⟨rfl, rfl, rfl, rfl, rfl, e0⟩ | ⟨rfl, rfl, rfl, rfl, rfl, rfl, e0⟩
          all_goals
            go_wp2_with fail
            go_quiet (fail)
            all_goals (go_wp2_with fail)
            all_goals go_ret
            all_goals exact ⟨by rw [E.out]; rfl, bdn hnx _⟩
      · have e : k = xs.length := by omega
        have HK := Lib.hid e
        clear e
        go_wp2
        go_ret
        refine ⟨?_, hnx⟩
        have h := HT.out
        rw [HK.out, List.take_length, HL.out, List.take_length] at h
        rw [show sameL xs ys = true by unfold sameL; simpa using h]
        rfl
  · have hl' : (((xs.length : Int)) != (ys.length : Int)) = true := by simp; omega
    have E := Lib.hid (pg_len hl)
    clear hl
    go_enter Tryz.func56, Tryz.ntmps56
    go_wp2
    go_ret
    exact ⟨by rw [E.out]; rfl, Below.refl _ _⟩
theorem page_differ {p q : Page} (h : p ≠ q) : p.no ≠ q.no ∨ (p.no = q.no ∧ p.kind ≠ q.kind) ∨ (p.no = q.no ∧ p.kind = q.kind ∧ p.heads ≠ q.heads) ∨ (p.no = q.no ∧ p.kind = q.kind ∧ p.heads = q.heads ∧ p.flow ≠ q.flow) ∨
    (p.no = q.no ∧ p.kind = q.kind ∧ p.heads = q.heads ∧ p.flow = q.flow ∧ p.floats ≠ q.floats) := by
  obtain ⟨a, b, c, d, e⟩ := p
  obtain ⟨a', b', c', d', e'⟩ := q
  simp only [ne_eq, Page.mk.injEq] at *
  by_cases h1 : a = a'
  · by_cases h2 : b = b'
    · by_cases h3 : c = c'
      · by_cases h4 : d = d'
        · exact .inr (.inr (.inr (.inr ⟨h1, h2, h3, h4, fun h5 => h ⟨h1, h2, h3, h4, h5⟩⟩)))
        · exact .inr (.inr (.inr (.inl ⟨h1, h2, h3, h4⟩)))
      · exact .inr (.inr (.inl ⟨h1, h2, h3⟩))
    · exact .inr (.inl ⟨h1, h2⟩)
  · exact .inl h1
theorem pg_self {α : Type} [DecidableEq α] (l : List α) : sameL l l = true := by simp [sameL]
theorem pg_ne {α : Type} [DecidableEq α] {l m : List α} (h : l ≠ m) : sameL l m = false := by simp [sameL, h]

theorem sl_calls {w W : World} {A B : Sl} {l m : List Frag} (hA : SlAt w A l) (hB : SlAt w B m) (hn : l.length ≤ 1000000) (x : Bool) (hx : sameL l m = x) (h : Below w.heap.size w W) :
    Calls Tryz.prog 56 #[A.v, B.v] W fun e w' => e = .returned (.bool x) ∧ Below W.heap.size W w' := by
  obtain ⟨a, n, c⟩ := A
  obtain ⟨b, k, d⟩ := B
  obtain ⟨hn1, hr1⟩ := hA
  obtain ⟨hn2, hr2⟩ := hB
  simp only at hn1 hn2 hr1 hr2
  subst hn1 hn2
  have := rfrags_any a b c d l m W (hr1.below h) (hr2.below h) (by omega)
  rw [hx] at this
  exact this

theorem page_boxes {w : World} {r s : Raw} : ∃ W, W = (w.alloc (.cells #[.int .i64 r.no, .int .i64 r.kind, r.h.v, r.f.v, r.l.v] 38)).alloc (.cells #[.int .i64 s.no, .int .i64 s.kind, s.h.v, s.f.v, s.l.v] 38) ∧
    Blk W w.heap.size 38 #[.int .i64 r.no, .int .i64 r.kind, r.h.v, r.f.v, r.l.v] ∧ Blk W (w.heap.size + 1) 38 #[.int .i64 s.no, .int .i64 s.kind, s.h.v, s.f.v, s.l.v] ∧ Below w.heap.size w W := by
  refine ⟨_, rfl, (Blk.new w _ _).alloc _, ?_, bl (bl (Below.refl _ _) _) _⟩
  have := Blk.new (w.alloc (.cells #[.int .i64 r.no, .int .i64 r.kind, r.h.v, r.f.v, r.l.v] 38)) 38 #[.int .i64 s.no, .int .i64 s.kind, s.h.v, s.f.v, s.l.v]
  simpa using this

set_option maxHeartbeats 8000000 in
set_option maxRecDepth 100000 in
theorem one_any (r s : Raw) (p q : Page) (w : World) (hr : PgAt w r p) (hs : PgAt w s q) (hsm : PgSmall p) :
    Calls Tryz.prog 41 #[.agg #[.int .i64 r.no, .int .i64 r.kind, r.h.v, r.f.v, r.l.v], .agg #[.int .i64 s.no, .int .i64 s.kind, s.h.v, s.f.v, s.l.v]] w fun e w' => e = .returned (.bool (decide (p = q))) ∧ Below w.heap.size w w' := by
  have th := fun x hx W h => sl_calls (W := W) hr.2.2.1 hs.2.2.1 hsm.1 x hx h
  have tf := fun x hx W h => sl_calls (W := W) hr.2.2.2.1 hs.2.2.2.1 hsm.2.1 x hx h
  have tl := fun x hx W h => sl_calls (W := W) hr.2.2.2.2 hs.2.2.2.2 hsm.2.2 x hx h
  obtain ⟨W0, hW0, hP, hQ, hB0⟩ := page_boxes (w := w) (r := r) (s := s)
  have g0 := hr.1
  have g1 := hr.2.1
  have g2 := hs.1
  have g3 := hs.2.1
  obtain ⟨r0, r1, r2, r3, r4⟩ := r
  obtain ⟨s0, s1, s2, s3, s4⟩ := s
  simp only at g0 g1 g2 g3 th tf tl hW0 hP hQ
  subst g0 g1 g2 g3
  have HP : Hid (∀ W, Below W0.heap.size W0 W → Blk W w.heap.size 38 #[.int .i64 p.no, .int .i64 p.kind, r2.v, r3.v, r4.v]) := fun W h => hP.keep h
  have HQ : Hid (∀ W, Below W0.heap.size W0 W → Blk W (w.heap.size + 1) 38 #[.int .i64 q.no, .int .i64 q.kind, s2.v, s3.v, s4.v]) := fun W h => hQ.keep h
  have HB0 := Lib.hid hB0
  have HZ := Lib.hid (Below.refl W0.heap.size W0)
  clear hr hs hsm hP hQ hB0
  by_cases he : p = q
  · subst he
    have TH := Lib.hid (th true (pg_self _))
    have TF := Lib.hid (tf true (pg_self _))
    have TL := Lib.hid (tl true (pg_self _))
    have e0 : (p.no == p.no) = true := by simp
    have e1 : (p.kind == p.kind) = true := by simp
    clear th tf tl
    rw [show decide (p = p) = true by simp]
    go_enter Tryz.func41, Tryz.ntmps41
    go_wp2_with fail
    rw [← hW0]
    refine (TH.out _ (bt HB0.out HZ.out)).mono ?_
    rintro e w1 ⟨rfl, hb1⟩
    have HZ1 := Lib.hid (bt HZ.out hb1)
    obtain ⟨x0, x1, x2, x3, x4⟩ := (HP.out _ HZ1.out).facts5
    obtain ⟨y0, y1, y2, y3, y4⟩ := (HQ.out _ HZ1.out).facts5
    clear hb1
    go_wp2_with fail
    clear x0 x1 x2 x3 x4 y0 y1 y2 y3 y4
    refine (TF.out _ (bt HB0.out HZ1.out)).mono ?_
    rintro e w2 ⟨rfl, hb2⟩
    have HZ2 := Lib.hid (bt HZ1.out hb2)
    obtain ⟨x0, x1, x2, x3, x4⟩ := (HP.out _ HZ2.out).facts5
    obtain ⟨y0, y1, y2, y3, y4⟩ := (HQ.out _ HZ2.out).facts5
    clear hb2
    go_wp2_with fail
    clear x0 x1 x2 x3 x4 y0 y1 y2 y3 y4
    refine (TL.out _ (bt HB0.out HZ2.out)).mono ?_
    rintro e w3 ⟨rfl, hb3⟩
    have HZ3 := Lib.hid (bt HZ2.out hb3)
    obtain ⟨x0, x1, x2, x3, x4⟩ := (HP.out _ HZ3.out).facts5
    obtain ⟨y0, y1, y2, y3, y4⟩ := (HQ.out _ HZ3.out).facts5
    clear hb3
    go_wp2_with fail
    go_ret
    exact ⟨rfl, bt HB0.out HZ3.out⟩
  · have hd := page_differ he
    rw [show decide (p = q) = false by simpa using he]
    clear he
    rcases hd with e0 | ⟨e0, e1⟩ | ⟨e0, e1, e2⟩ | ⟨e0, e1, e2, e3⟩ | ⟨e0, e1, e2, e3, e4⟩
    · have n0 : (p.no == q.no) = false := by simpa using e0
      clear e0 th tf tl
      go_enter Tryz.func41, Tryz.ntmps41
      go_wp2
      go_ret
      exact ⟨rfl, bl (bl (Below.refl _ _) _) _⟩
    · have n0 : (p.no == q.no) = true := by simpa using e0
      have n1 : (p.kind == q.kind) = false := by simpa using e1
      clear e0 e1 th tf tl
      go_enter Tryz.func41, Tryz.ntmps41
      go_wp2
      go_ret
      exact ⟨rfl, bl (bl (Below.refl _ _) _) _⟩
    · have n0 : (p.no == q.no) = true := by simpa using e0
      have n1 : (p.kind == q.kind) = true := by simpa using e1
      have TH := Lib.hid (th false (pg_ne e2))
      clear e0 e1 e2 th tf tl
      go_enter Tryz.func41, Tryz.ntmps41
      go_wp2_with fail
      rw [← hW0]
      refine (TH.out _ (bt HB0.out HZ.out)).mono ?_
      rintro e w1 ⟨rfl, hb1⟩
      have HZ1 := Lib.hid (bt HZ.out hb1)
      obtain ⟨x0, x1, x2, x3, x4⟩ := (HP.out _ HZ1.out).facts5
      obtain ⟨y0, y1, y2, y3, y4⟩ := (HQ.out _ HZ1.out).facts5
      clear hb1
      go_wp2_with fail
      go_ret
      exact ⟨rfl, bt HB0.out HZ1.out⟩
    · have n0 : (p.no == q.no) = true := by simpa using e0
      have n1 : (p.kind == q.kind) = true := by simpa using e1
      have TH := Lib.hid (th true (by rw [e2]; exact pg_self _))
      have TF := Lib.hid (tf false (pg_ne e3))
      clear e0 e1 e2 e3 th tf tl
      go_enter Tryz.func41, Tryz.ntmps41
      go_wp2_with fail
      rw [← hW0]
      refine (TH.out _ (bt HB0.out HZ.out)).mono ?_
      rintro e w1 ⟨rfl, hb1⟩
      have HZ1 := Lib.hid (bt HZ.out hb1)
      obtain ⟨x0, x1, x2, x3, x4⟩ := (HP.out _ HZ1.out).facts5
      obtain ⟨y0, y1, y2, y3, y4⟩ := (HQ.out _ HZ1.out).facts5
      clear hb1
      go_wp2_with fail
      clear x0 x1 x2 x3 x4 y0 y1 y2 y3 y4
      refine (TF.out _ (bt HB0.out HZ1.out)).mono ?_
      rintro e w2 ⟨rfl, hb2⟩
      have HZ2 := Lib.hid (bt HZ1.out hb2)
      obtain ⟨x0, x1, x2, x3, x4⟩ := (HP.out _ HZ2.out).facts5
      obtain ⟨y0, y1, y2, y3, y4⟩ := (HQ.out _ HZ2.out).facts5
      clear hb2
      go_wp2_with fail
      go_ret
      exact ⟨rfl, bt HB0.out HZ2.out⟩
    · have n0 : (p.no == q.no) = true := by simpa using e0
      have n1 : (p.kind == q.kind) = true := by simpa using e1
      have TH := Lib.hid (th true (by rw [e2]; exact pg_self _))
      have TF := Lib.hid (tf true (by rw [e3]; exact pg_self _))
      have TL := Lib.hid (tl false (pg_ne e4))
      clear e0 e1 e2 e3 e4 th tf tl
      go_enter Tryz.func41, Tryz.ntmps41
      go_wp2_with fail
      rw [← hW0]
      refine (TH.out _ (bt HB0.out HZ.out)).mono ?_
      rintro e w1 ⟨rfl, hb1⟩
      have HZ1 := Lib.hid (bt HZ.out hb1)
      obtain ⟨x0, x1, x2, x3, x4⟩ := (HP.out _ HZ1.out).facts5
      obtain ⟨y0, y1, y2, y3, y4⟩ := (HQ.out _ HZ1.out).facts5
      clear hb1
      go_wp2_with fail
      clear x0 x1 x2 x3 x4 y0 y1 y2 y3 y4
      refine (TF.out _ (bt HB0.out HZ1.out)).mono ?_
      rintro e w2 ⟨rfl, hb2⟩
      have HZ2 := Lib.hid (bt HZ1.out hb2)
      obtain ⟨x0, x1, x2, x3, x4⟩ := (HP.out _ HZ2.out).facts5
      obtain ⟨y0, y1, y2, y3, y4⟩ := (HQ.out _ HZ2.out).facts5
      clear hb2
      go_wp2_with fail
      clear x0 x1 x2 x3 x4 y0 y1 y2 y3 y4
      refine (TL.out _ (bt HB0.out HZ2.out)).mono ?_
      rintro e w3 ⟨rfl, hb3⟩
      have HZ3 := Lib.hid (bt HZ2.out hb3)
      obtain ⟨x0, x1, x2, x3, x4⟩ := (HP.out _ HZ3.out).facts5
      obtain ⟨y0, y1, y2, y3, y4⟩ := (HQ.out _ HZ3.out).facts5
      clear hb3
      go_wp2_with fail
      go_ret
      exact ⟨rfl, bt HB0.out HZ3.out⟩

set_option maxHeartbeats 8000000 in
set_option maxRecDepth 100000 in
theorem pgsame_any (A B : Option Addr) (c d : Nat) (xs ys : List Page) (w : World) (hA : PagesAt w A xs) (hB : PagesAt w B ys) (hn : xs.length ≤ 9223372036854775807) (hsm : ∀ p ∈ xs, PgSmall p) :
    Calls Tryz.prog 19 #[.slice A xs.length c, .slice B ys.length d] w fun e w' => e = .returned (.bool (sameL xs ys)) ∧ Below w.heap.size w w' := by
  obtain ⟨rs, hl1, hr1, hp1⟩ := hA
  obtain ⟨ss, hl2, hr2, hp2⟩ := hB
  have HR1 := Lib.hid hr1
  have HR2 := Lib.hid hr2
  have HP1 := Lib.hid hp1
  have HP2 := Lib.hid hp2
  have HL1 := Lib.hid hl1
  have HL2 := Lib.hid hl2
  have HSM := Lib.hid hsm
  clear hr1 hr2 hp1 hp2 hl1 hl2 hsm
  by_cases hl : xs.length = ys.length
  · have HL := Lib.hid hl
    have hl' : (((xs.length : Int)) != (ys.length : Int)) = false := by simp [hl]
    clear hl
    go_enter Tryz.func19, Tryz.ntmps19
    go_wp2_with fail
    go_loopw [5] (fun i wr => ∃ (k : Nat), k ≤ xs.length ∧ i = .int .i64 k ∧ Hid (Below w.heap.size w wr) ∧ Hid (xs.take k = ys.take k))
      (fun i _ => xs.length - (intOf i).toNat)
    case atStart => exact ⟨0, Nat.zero_le _, rfl, Below.refl _ _, rfl⟩
    case round =>
      obtain ⟨k, hk, rfl, HB, HT⟩ := hrel
      by_cases hlt : k < xs.length
      · have hlt2 : k < ys.length := by have := HL.out; omega
        have hx : xs[k]? = some xs[k] := List.getElem?_eq_getElem hlt
        have hy : ys[k]? = some ys[k] := List.getElem?_eq_getElem hlt2
        have hkr : k < rs.length := by rw [HL1.out]; exact hlt
        have hks : k < ss.length := by rw [HL2.out]; exact hlt2
        have hrr : rs[k]? = some rs[k] := List.getElem?_eq_getElem hkr
        have hss : ss[k]? = some ss[k] := List.getElem?_eq_getElem hks
        have hq1 := (HP1.out k _ _ hrr hx).below HB.out
        have hq2 := (HP2.out k _ _ hss hy).below HB.out
        have hsm := HSM.out xs[k] (List.getElem_mem hlt)
        have E0 : Hid (xs[k] = ys[k] → xs.take (k + 1) = ys.take (k + 1)) := fun h => pg_take HT.out hx (by rw [h]; exact hy)
        have E1 : Hid (xs[k] ≠ ys[k] → sameL xs ys = false) := fun h => pg_no hx hy h
        generalize xs[k] = p at *
        generalize ys[k] = q at *
        generalize rs[k] = r at *
        generalize ss[k] = s at *
        obtain ⟨b1, o1, rfl, hb1, c0, c1, c2, c3, c4⟩ := (HR1.out.below HB.out).raw hrr
        obtain ⟨b2, o2, rfl, hb2, d0, d1, d2, d3, d4⟩ := (HR2.out.below HB.out).raw hss
        have ca := fun (pw : From wr) => one_any r s p q pw.W (hq1.below pw.below) (hq2.below pw.below) hsm
        have c0' := From.cell c0
        have c1' := From.cell c1
        have c2' := From.cell c2
        have c3' := From.cell c3
        have c4' := From.cell c4
        have d0' := From.cell d0
        have d1' := From.cell d1
        have d2' := From.cell d2
        have d3' := From.cell d3
        have d4' := From.cell d4
        have i1 : (0 : Int) ≤ (k : Int) := by omega
        have i2 : (k : Int) < (xs.length : Int) := by omega
        have i3 : (k : Int) < (ys.length : Int) := by omega
        clear hx hy hrr hss hq1 hq2 hsm c0 c1 c2 c3 c4 d0 d1 d2 d3 d4
        by_cases he : p = q
        · have E := Lib.hid (E0.out he)
          rw [show decide (p = q) = true by simpa using he] at ca
          have CA := Lib.hid ca
          clear E0 E1 he ca
          go_wp2_with fail
          refine wp_region_from (by kernel_rfl) (by kernel_rfl) ?_
          repeat (go_big_quiet_step ((go_at_call 41; exact calls_from (CA.out _))))
          refine wpQuiet_nil ?_
          intro _ hw'
          obtain ⟨pw, rfl⟩ := hw'
          have HB2 := Lib.hid (HB.out.trans (pw.below.mono (by have := HB.out.size; omega)))
          clear c0' c1' c2' c3' c4' d0' d1' d2' d3' d4' CA
          generalize pw.W = W2 at *
          go_wp2_with fail
          go_roundw
          case rel => exact ⟨k + 1, by omega, by go_num, HB2, E⟩
          case measure => simp [intOf]; omega
        · have E := Lib.hid (E1.out he)
          rw [show decide (p = q) = false by simpa using he] at ca
          have CA := Lib.hid ca
          clear E0 E1 he ca
          go_wp2_with fail
          refine wp_region_from (by kernel_rfl) (by kernel_rfl) ?_
          repeat (go_big_quiet_step ((go_at_call 41; exact calls_from (CA.out _))))
          refine wpQuiet_nil ?_
          intro _ hw'
          obtain ⟨pw, rfl⟩ := hw'
          have HB2 := Lib.hid (HB.out.trans (pw.below.mono (by have := HB.out.size; omega)))
          clear c0' c1' c2' c3' c4' d0' d1' d2' d3' d4' CA
          generalize pw.W = W2 at *
          go_wp2_with fail
          go_ret
          exact ⟨by rw [E.out]; rfl, HB2.out⟩
      · have e : k = xs.length := by omega
        have HK := Lib.hid e
        clear e
        go_wp2_with fail
        go_ret
        refine ⟨?_, HB.out⟩
        have h := HT.out
        rw [HK.out, List.take_length, HL.out, List.take_length] at h
        rw [show sameL xs ys = true by unfold sameL; simpa using h]
        rfl
  · have hl' : (((xs.length : Int)) != (ys.length : Int)) = true := by simp; omega
    have E := Lib.hid (pg_len hl)
    clear hl
    go_enter Tryz.func19, Tryz.ntmps19
    go_wp2_with fail
    go_ret
    exact ⟨by rw [E.out]; rfl, Below.refl _ _⟩
end Go.Proofs.YtbbaaaomncegiaaGreatDoor
